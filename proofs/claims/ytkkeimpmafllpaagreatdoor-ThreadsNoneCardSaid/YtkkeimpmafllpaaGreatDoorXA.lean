/- The heart of the symbolic executor: chunks of memory with footprints, lists of them, and contracts of functions. No program is in sight. -/
import Derived.WalkKit
import Derived.Deep.Quiet
import Derived.KernelRfl
namespace Go.X

/-- A set of blocks. -/
abbrev FP := Nat → Prop

/-- An assertion on memory, with the blocks that it speaks of. -/
structure Chunk where
  sat : World → FP → Prop
  stab : ∀ {w w' : World} {S : FP}, sat w S → (∀ b, S b → w'.heap[b]? = w.heap[b]?) → sat w' S
  dom : ∀ {w : World} {S : FP} {b : Nat}, sat w S → S b → b < w.heap.size

/-- The chunks hold, apart from one another, within the blocks of S. -/
def Sep : List Chunk → World → FP → Prop
  | [], _, _ => True
  | c :: L, w, S => ∃ S1 S2, c.sat w S1 ∧ Sep L w S2 ∧ (∀ b, S1 b → ¬ S2 b) ∧ (∀ b, S1 b → S b) ∧ (∀ b, S2 b → S b)

theorem Sep.mono {w : World} : ∀ {L : List Chunk} {S S' : FP}, Sep L w S → (∀ b, S b → S' b) → Sep L w S'
  | [], _, _, _, _ => trivial
  | _ :: _, _, _, ⟨S1, S2, h1, h2, hd, hs1, hs2⟩, h => ⟨S1, S2, h1, h2, hd, fun b hb => h b (hs1 b hb), fun b hb => h b (hs2 b hb)⟩

theorem Sep.stab {w w' : World} : ∀ {L : List Chunk} {S : FP}, Sep L w S → (∀ b, S b → w'.heap[b]? = w.heap[b]?) → Sep L w' S
  | [], _, _, _ => trivial
  | c :: _, _, ⟨S1, S2, h1, h2, hd, hs1, hs2⟩, h => ⟨S1, S2, c.stab h1 (fun b hb => h b (hs1 b hb)), Sep.stab h2 (fun b hb => h b (hs2 b hb)), hd, hs1, hs2⟩

theorem Sep.split {w : World} : ∀ {L M : List Chunk} {S : FP}, Sep (L ++ M) w S → ∃ S1 S2, Sep L w S1 ∧ Sep M w S2 ∧ (∀ b, S1 b → ¬ S2 b) ∧ (∀ b, S1 b → S b) ∧ (∀ b, S2 b → S b)
  | [], _, S, h => ⟨fun _ => False, S, trivial, h, fun _ hb => hb.elim, fun _ hb => hb.elim, fun _ hb => hb⟩
  | c :: L, M, S, ⟨S1, S2, h1, h2, hd, hs1, hs2⟩ => by
    obtain ⟨T1, T2, k1, k2, kd, kt1, kt2⟩ := Sep.split h2
    exact ⟨fun b => S1 b ∨ T1 b, T2, ⟨S1, T1, h1, k1, fun b hb hb' => hd b hb (kt1 b hb'), fun b hb => .inl hb, fun b hb => .inr hb⟩, k2,
      fun b hb hb' => hb.elim (fun h => hd b h (kt2 b hb')) (fun h => kd b h hb'), fun b hb => hb.elim (hs1 b) (fun h => hs2 b (kt1 b h)), fun b hb => hs2 b (kt2 b hb)⟩

theorem Sep.join {w : World} : ∀ {L M : List Chunk} {S S1 S2 : FP}, Sep L w S1 → Sep M w S2 → (∀ b, S1 b → ¬ S2 b) → (∀ b, S1 b → S b) → (∀ b, S2 b → S b) → Sep (L ++ M) w S
  | [], _, _, _, _, _, h2, _, _, hs2 => h2.mono hs2
  | _ :: _, _, _, _, S2, ⟨T1, T2, k1, k2, kd, kt1, kt2⟩, h2, hd, hs1, hs2 =>
    ⟨T1, fun b => T2 b ∨ S2 b, k1, Sep.join k2 h2 (fun b hb => hd b (kt2 b hb)) (fun _ hb => .inl hb) (fun _ hb => .inr hb),
      fun b hb hb' => hb'.elim (kd b hb) (hd b (kt1 b hb)), fun b hb => hs1 b (kt1 b hb), fun b hb => hb.elim (fun h => hs1 b (kt2 b h)) (hs2 b)⟩

theorem Sep.perm {w : World} {L M : List Chunk} (hp : L.Perm M) : ∀ {S : FP}, Sep L w S → Sep M w S := by
  induction hp with
  | nil => exact fun h => h
  | cons c _ ih => rintro S ⟨S1, S2, h1, h2, hd, hs1, hs2⟩; exact ⟨S1, S2, h1, ih h2, hd, hs1, hs2⟩
  | swap c d L =>
    rintro S ⟨S1, S2, h1, ⟨T1, T2, k1, k2, kd, kt1, kt2⟩, hd, hs1, hs2⟩
    exact ⟨T1, fun b => S1 b ∨ T2 b, k1, ⟨S1, T2, h1, k2, fun b hb hb' => hd b hb (kt2 b hb'), fun _ hb => .inl hb, fun _ hb => .inr hb⟩,
      fun b hb hb' => hb'.elim (fun h => hd b h (kt1 b hb)) (kd b hb), fun b hb => hs2 b (kt1 b hb), fun b hb => hb.elim (hs1 b) (fun h => hs2 b (kt2 b h))⟩
  | trans _ _ ih1 ih2 => exact fun h => ih2 (ih1 h)

/-! ### choosing chunks by their numbers -/
def takeAt : List Chunk → Nat → Option (Chunk × List Chunk)
  | [], _ => none
  | c :: L, 0 => some (c, L)
  | c :: L, i + 1 => match takeAt L i with
    | some (d, M) => some (d, c :: M)
    | none => none

theorem takeAt_perm : ∀ {L : List Chunk} {i : Nat} {c : Chunk} {M : List Chunk}, takeAt L i = some (c, M) → L.Perm (c :: M)
  | [], _, _, _, h => by simp [takeAt] at h
  | d :: L, 0, c, M, h => by simp [takeAt] at h; obtain ⟨rfl, rfl⟩ := h; exact .refl _
  | d :: L, i + 1, c, M, h => by
    simp only [takeAt] at h
    cases hh : takeAt L i with
    | none => simp [hh] at h
    | some x =>
      obtain ⟨u, N⟩ := x
      simp [hh] at h
      obtain ⟨rfl, rfl⟩ := h
      exact (List.Perm.cons d (takeAt_perm hh)).trans (.swap _ _ _)

/-- The chunks with these numbers (each counted in what is left when it is taken), and the others. -/
def pick : List Chunk → List Nat → List Chunk × List Chunk
  | L, [] => ([], L)
  | L, i :: is => match takeAt L i with
    | some (c, M) => (c :: (pick M is).1, (pick M is).2)
    | none => pick L is

theorem pick_perm : ∀ (is : List Nat) (L : List Chunk), L.Perm ((pick L is).1 ++ (pick L is).2)
  | [], L => by simp [pick]
  | i :: is, L => by
    simp only [pick]
    cases hh : takeAt L i with
    | none => simpa using pick_perm is L
    | some x =>
      obtain ⟨c, M⟩ := x
      simpa using (takeAt_perm hh).trans (List.Perm.cons c (pick_perm is M))

/-! ### what a call may have done -/
/-- From w0 to w: of what was there only the blocks of S0 may have turned. -/
structure Fr (w0 : World) (S0 : FP) (w : World) : Prop where
  os : w.os = w0.os
  tape : w.tape = w0.tape
  output : w.output = w0.output
  size : w0.heap.size ≤ w.heap.size
  blk : ∀ b, b < w0.heap.size → ¬ S0 b → w.heap[b]? = w0.heap[b]?

theorem Fr.refl (w : World) (S : FP) : Fr w S w := ⟨rfl, rfl, rfl, Nat.le_refl _, fun _ _ _ => rfl⟩

theorem Fr.below {w0 w : World} (h : Fr w0 (fun _ => False) w) : RowKit.Below w0.heap.size w0 w := ⟨h.os, h.tape, h.output, h.size, fun b hb => h.blk b hb id⟩

/-- The state between two operations: the frame, and the chunks. -/
def Inv (w0 : World) (S0 : FP) (L : List Chunk) (w : World) : Prop :=
  Fr w0 S0 w ∧ ∃ S, Sep L w S ∧ ∀ b, S b → b < w.heap.size ∧ (S0 b ∨ w0.heap.size ≤ b)

/-- A chunk that nobody writes to while the blocks of S may turn. -/
def RO (w : World) (S : FP) (c : Chunk) : Prop := ∃ T, c.sat w T ∧ ∀ b, T b → ¬ S b

theorem Inv.perm {w0 w : World} {S0 : FP} {L M : List Chunk} (hp : L.Perm M) (h : Inv w0 S0 L w) : Inv w0 S0 M w :=
  ⟨h.1, let ⟨S, hS, hb⟩ := h.2; ⟨S, hS.perm hp, hb⟩⟩

theorem Inv.pick {w0 w : World} {S0 : FP} {L : List Chunk} (is : List Nat) (h : Inv w0 S0 L w) : Inv w0 S0 (X.pick L is).1 w := by
  obtain ⟨hf, S, hS, hb⟩ := h
  obtain ⟨S1, S2, h1, _, _, hs1, _⟩ := (hS.perm (pick_perm is L)).split
  exact ⟨hf, S1, h1, fun b hb' => hb b (hs1 b hb')⟩

theorem Inv.start {w : World} {S : FP} {L : List Chunk} (h : Sep L w S) (hd : ∀ b, S b → b < w.heap.size) : Inv w S L w :=
  ⟨.refl _ _, S, h, fun b hb => ⟨hd b hb, .inl hb⟩⟩

/-- What was read-only stays what it is. -/
theorem RO.now {w0 w : World} {S0 : FP} {c : Chunk} (h : RO w0 S0 c) (hf : Fr w0 S0 w) : ∃ T, c.sat w T ∧ ∀ b, T b → b < w0.heap.size ∧ ¬ S0 b := by
  obtain ⟨T, hT, hd⟩ := h
  exact ⟨T, c.stab hT fun b hb => hf.blk b (c.dom hT hb) (hd b hb), fun b hb => ⟨c.dom hT hb, hd b hb⟩⟩

/-- A new block joins the chunks. -/
theorem Inv.alloc {w0 w : World} {S0 : FP} {L : List Chunk} (h : Inv w0 S0 L w) (o : Obj) {c : Chunk} (hc : c.sat (w.alloc o) (fun b => b = w.heap.size)) : Inv w0 S0 (c :: L) (w.alloc o) := by
  obtain ⟨hf, S, hS, hb⟩ := h
  have old : ∀ b, b < w.heap.size → (w.alloc o).heap[b]? = w.heap[b]? := fun b hlt => RowKit.Below.heap_alloc w o b hlt
  have hsz := hf.size
  refine ⟨⟨hf.os, hf.tape, hf.output, by simp; omega, fun b hb0 hn => (old b (by omega)).trans (hf.blk b hb0 hn)⟩, fun b => b = w.heap.size ∨ S b, ?_, ?_⟩
  · exact ⟨_, S, hc, hS.stab fun b hb' => old b (hb b hb').1, fun b e hb' => by have := (hb b hb').1; omega, fun b hb' => .inl hb', fun b hb' => .inr hb'⟩
  · rintro b (rfl | hb')
    · exact ⟨by simp, .inr hsz⟩
    · exact ⟨by have := (hb b hb').1; simp; omega, (hb b hb').2⟩

/-- A draw turns nothing. -/
theorem Inv.drew {w0 w : World} {S0 : FP} {L : List Chunk} (h : Inv w0 S0 L w) : Inv w0 S0 L w.drew :=
  let ⟨hf, S, hS, hb⟩ := h; ⟨⟨hf.os, hf.tape, hf.output, hf.size, hf.blk⟩, S, hS.stab fun _ _ => rfl, hb⟩

/-- Some chunks are handed over: what the callee may count on, and what its work gives. -/
theorem Inv.handOver {w0 w : World} {S0 : FP} {A B : List Chunk} (h : Inv w0 S0 (A ++ B) w) :
    ∃ S1, Sep A w S1 ∧ (∀ b, S1 b → b < w.heap.size) ∧ (∀ r, RO w0 S0 r → RO w S1 r) ∧ (∀ r ∈ B, RO w S1 r) ∧ ∀ M w', Inv w S1 M w' → Inv w0 S0 (M ++ B) w' := by
  obtain ⟨hf, S, hS, hb⟩ := h
  obtain ⟨S1, S2, h1, h2, hd, hs1, hs2⟩ := hS.split
  refine ⟨S1, h1, fun b hb' => (hb b (hs1 b hb')).1, fun r hr => ?_, ?_, ?_⟩
  · obtain ⟨T, hT, hk⟩ := hr.now hf
    refine ⟨T, hT, fun b hb' hb1 => ?_⟩
    rcases (hb b (hs1 b hb1)).2 with h' | h'
    · exact (hk b hb').2 h'
    · have := (hk b hb').1; omega
  · clear hs2 hb
    intro r hr
    revert h2 hd
    clear h1 hs1 hS hf
    induction B generalizing S2 with
    | nil => cases hr
    | cons c B ih =>
      rintro ⟨T1, T2, k1, k2, kd, kt1, kt2⟩ hd
      rcases List.mem_cons.1 hr with rfl | hr
      · exact ⟨T1, k1, fun b hb' hb1 => hd b hb1 (kt1 b hb')⟩
      · exact ih T2 hr k2 fun b hb1 hb2 => hd b hb1 (kt2 b hb2)
  · rintro M w' ⟨kf, T, hT, kb⟩
    have s1 := hf.size
    have s2 := kf.size
    refine ⟨⟨kf.os.trans hf.os, kf.tape.trans hf.tape, kf.output.trans hf.output, by omega, fun b hb0 hn => ?_⟩, fun b => T b ∨ S2 b, ?_, ?_⟩
    · refine (kf.blk b (by omega) fun h => ?_).trans (hf.blk b hb0 hn)
      rcases (hb b (hs1 b h)).2 with h' | h'
      · exact hn h'
      · omega
    · refine Sep.join hT (h2.stab fun b hb' => kf.blk b (hb b (hs2 b hb')).1 fun h => hd b h hb') (fun b hb' hb2 => ?_) (fun _ hb' => .inl hb') (fun _ hb' => .inr hb')
      rcases (kb b hb').2 with h' | h'
      · exact hd b h' hb2
      · have := (hb b (hs2 b hb2)).1; omega
    · rintro b (hb' | hb')
      · refine ⟨(kb b hb').1, ?_⟩
        rcases (kb b hb').2 with h' | h'
        · exact (hb b (hs1 b h')).2
        · exact .inr (by omega)
      · exact ⟨by have := (hb b (hs2 b hb')).1; omega, (hb b (hs2 b hb')).2⟩

/-- The first chunk turns into others, within its own blocks and new ones. -/
theorem Inv.turn {w0 w w' : World} {S0 : FP} {c : Chunk} {M L : List Chunk} (h : Inv w0 S0 (c :: L) w)
    (hc : ∀ S1, c.sat w S1 → (∀ b, S1 b → b < w.heap.size) → Inv w S1 M w') : Inv w0 S0 (M ++ L) w' := by
  obtain ⟨S1, hA, hd, _, _, hk⟩ := Inv.handOver (A := [c]) (B := L) h
  obtain ⟨T1, T2, h1, _, _, ht1, _⟩ := hA
  obtain ⟨kf, T, hT, kb⟩ := hc T1 h1 fun b hb => hd b (ht1 b hb)
  exact hk M w' ⟨⟨kf.os, kf.tape, kf.output, kf.size, fun b hb hn => kf.blk b hb fun h => hn (ht1 b h)⟩, T, hT, fun b hb => ⟨(kb b hb).1, (kb b hb).2.imp_left (ht1 b)⟩⟩

/-! ### one list of chunks gives another one -/
def Ent (L M : List Chunk) : Prop := ∀ w0 S0 w, Inv w0 S0 L w → Inv w0 S0 M w
theorem Ent.refl (L : List Chunk) : Ent L L := fun _ _ _ h => h
theorem Ent.trans {L M N : List Chunk} (h : Ent L M) (k : Ent M N) : Ent L N := fun w0 S0 w x => k w0 S0 w (h w0 S0 w x)
theorem Ent.perm {L M : List Chunk} (h : L.Perm M) : Ent L M := fun _ _ _ x => x.perm h
theorem Ent.pick {L : List Chunk} (is : List Nat) : Ent L (X.pick L is).1 := fun _ _ _ x => x.pick is
theorem Ent.both {L : List Chunk} (is : List Nat) : Ent L ((X.pick L is).1 ++ (X.pick L is).2) := .perm (pick_perm is L)
/-- The first chunk is seen as another one. -/
theorem Ent.conv {c d : Chunk} {L : List Chunk} (h : ∀ w T, c.sat w T → ∃ T', d.sat w T' ∧ ∀ b, T' b → T b) : Ent (c :: L) (d :: L) := by
  rintro w0 S0 w ⟨hf, S, ⟨S1, S2, h1, h2, hd, hs1, hs2⟩, hb⟩
  obtain ⟨T', k1, k2⟩ := h w S1 h1
  exact ⟨hf, S, ⟨T', S2, k1, h2, fun b hb' => hd b (k2 b hb'), fun b hb' => hs1 b (k2 b hb'), hs2⟩, hb⟩
/-- A chunk that holds everywhere, of no block. -/
theorem Ent.free {c : Chunk} {L : List Chunk} (h : ∀ w, c.sat w fun _ => False) : Ent L (c :: L) := by
  rintro w0 S0 w ⟨hf, S, hS, hb⟩
  exact ⟨hf, S, ⟨fun _ => False, S, h w, hS, fun _ h => h.elim, fun _ h => h.elim, fun _ h => h⟩, hb⟩
theorem Ent.cons {c : Chunk} {L M : List Chunk} (h : ∀ w S, Sep L w S → Sep M w S) : Ent (c :: L) (c :: M) := by
  rintro w0 S0 w ⟨hf, S, ⟨S1, S2, h1, h2, hd, hs1, hs2⟩, hb⟩
  exact ⟨hf, S, ⟨S1, S2, h1, h w S2 h2, hd, hs1, hs2⟩, hb⟩

/-! ### contracts -/
/-- The function is one with a body (and not the one that the model keeps for itself). -/
def FnOk (P : Program) (f : FuncId) : Prop := ∃ fn, P.funcs[f]? = some fn ∧ (fn.name == "runtime.NumGoroutine") = false ∧ fn.body.isNone = false

/-- Called in w, where the chunks of the call lie in S, f returns a value and chunks of which Post holds. -/
def Trip (P : Program) (f : FuncId) (args : Array Value) (w : World) (S : FP) (Post : Value → List Chunk → Prop) : Prop :=
  FnOk P f ∧ Calls P f args w fun e w' => ∃ v L, e = .returned v ∧ Post v L ∧ Inv w S L w'

theorem Trip.mono {P : Program} {f : FuncId} {args : Array Value} {w : World} {S : FP} {Post Post' : Value → List Chunk → Prop} (h : Trip P f args w S Post)
    (hp : ∀ v L, Post v L → Post' v L) : Trip P f args w S Post' :=
  ⟨h.1, h.2.mono fun _ _ ⟨v, L, he, hP, hI⟩ => ⟨v, L, he, hp _ _ hP, hI⟩⟩

end Go.X

/- The symbolic executor's operations: what an operation asks of a symbolic state, and that this suffices. -/
namespace Go.X
set_option linter.unusedVariables false
set_option linter.unusedSimpArgs false

/-! ### slots -/
abbrev Env := List (Nat × Value)
def get : Env → Nat → Option Value
  | [], _ => none
  | (s, v) :: e, t => match Nat.beq s t with
    | true => some v
    | false => get e t
def put (n : Nat) (e : Env) : Option Tmp → Value → Env
  | none, _ => e
  | some d, v => match Nat.blt d n with
    | true => (d, v) :: e
    | false => e
def ev (e : Env) : Operand → Option Value
  | .tmp t => get e t
  | .const v => some v
  | .global g => some (.pointer (some ⟨g, 0, none⟩))
  | .func f => some (.func (.func f) #[] #[])
def evs (e : Env) : List Operand → (List Value → Prop) → Prop
  | [], K => K []
  | x :: xs, K => match ev e x with
    | some v => evs e xs fun vs => K (v :: vs)
    | none => False

/-- What the slots hold. -/
structure ES (n : Nat) (e : Env) (a : Act) : Prop where
  size : a.tmps.size = n
  val : ∀ t v, get e t = some v → a.tmps[t]? = some v
  defers : a.defers = []

theorem ES.eval {n : Nat} {e : Env} {a : Act} (h : ES n e a) {x : Operand} {v : Value} (hx : ev e x = some v) : a.eval x = v := by
  cases x with
  | tmp t =>
    have := h.val t v hx
    obtain ⟨hlt, hv⟩ := Array.getElem?_eq_some_iff.1 this
    simp [Act.eval, Array.getD, hlt, hv]
  | const u => simp [ev] at hx; simp [Act.eval, hx]
  | global g => simp [ev] at hx; simp [Act.eval, hx]
  | func f => simp [ev] at hx; simp [Act.eval, hx]

theorem ES.evals {n : Nat} {e : Env} {a : Act} (h : ES n e a) : ∀ {xs : List Operand} {K : List Value → Prop}, evs e xs K → K (xs.map a.eval)
  | [], _, hk => hk
  | x :: xs, K, hk => by
    simp only [evs] at hk
    cases hx : ev e x with
    | none => simp [hx] at hk
    | some v =>
      simp only [hx] at hk
      have := h.evals hk
      simpa [h.eval hx] using this

theorem ES.put {n : Nat} {e : Env} {a : Act} (h : ES n e a) (d : Option Tmp) (v : Value) : ES n (X.put n e d v) (a.put d v) := by
  cases d with
  | none => exact h
  | some d =>
    simp only [X.put, Act.put]
    cases hb : Nat.blt d n with
    | true =>
      have hlt : d < n := by simpa [Nat.blt_eq] using hb
      refine ⟨by simpa using h.size, fun t u hu => ?_, h.defers⟩
      simp only [X.get] at hu
      cases hbe : Nat.beq d t with
      | true =>
        have : d = t := Nat.eq_of_beq_eq_true hbe
        subst this
        simp at hu
        subst hu
        simp [h.size, hlt]
      | false =>
        have hne : d ≠ t := fun he => by subst he; simp at hbe
        simp [hbe] at hu
        simpa [Array.getElem?_setIfInBounds, hne] using h.val t u hu
    | false =>
      have hge : ¬ d < n := fun hlt => by rw [← Nat.blt_eq] at hlt; simp [hb] at hlt
      have hs : a.tmps.setIfInBounds d v = a.tmps := by
        unfold Array.setIfInBounds
        rw [dif_neg (by rw [h.size]; exact hge)]
      rw [hs]
      exact h

theorem ES.of_get {n : Nat} {e e' : Env} {a : Act} (h : ES n e a) (hk : ∀ t v, X.get e' t = some v → X.get e t = some v) : ES n e' a :=
  ⟨h.size, fun t v hv => h.val t v (hk t v hv), h.defers⟩

/-! ### types -/
inductive TK where
  | int (k : IntKind) | bool | string | pointer (e : TypeId) | slice (e : TypeId) | array (n e : Nat) | map (k e : TypeId)
  | struct (fs : List (Nat × Nat)) | iface | func
structure TyI where
  k : TK
  size : Nat
  bytes : Nat
  zero : List Value
abbrev Tab := List (Nat × TyI)
def tget : Tab → Nat → Option TyI
  | [], _ => none
  | (s, v) :: e, t => match Nat.beq s t with
    | true => some v
    | false => tget e t
def kOk : TypeDesc → TK → Prop
  | .int k, .int k' => k = k'
  | .bool, .bool => True
  | .string, .string => True
  | .pointer e, .pointer e' => e = e'
  | .slice e, .slice e' => e = e'
  | .array n e, .array n' e' => n = n' ∧ e = e'
  | .map k e, .map k' e' => k = k' ∧ e = e'
  | .struct fs, .struct l => fs.toList.map (fun f => (f.offset, f.type)) = l
  | .interface _, .iface => True
  | .func _ _ _, .func => True
  | _, _ => False
def TyOk (P : Program) (t : TypeId) (i : TyI) : Prop :=
  ∃ d inf z, P.underlying t = some d ∧ P.info? t = some inf ∧ inf.size = i.size ∧ inf.bytes = i.bytes ∧ inf.zero = some z ∧ z.cells.toList = i.zero ∧ kOk d i.k
def TabOk (P : Program) : Tab → Prop
  | [] => True
  | (t, i) :: r => TyOk P t i ∧ TabOk P r
theorem TabOk.get {P : Program} : ∀ {tab : Tab} {t : TypeId} {i : TyI}, TabOk P tab → tget tab t = some i → TyOk P t i
  | [], _, _, _, h => by simp [tget] at h
  | (s, v) :: r, t, i, ⟨h1, h2⟩, h => by
    simp only [tget] at h
    cases hb : Nat.beq s t with
    | true => simp [hb] at h; subst h; rw [← Nat.eq_of_beq_eq_true hb]; exact h1
    | false => simp [hb] at h; exact TabOk.get h2 h

/-! ### the executor's frame -/
structure Ctx where
  P : Program
  tab : Tab
  n : Nat
  w0 : World
  S0 : FP
def Holds (C : Ctx) (L : List Chunk) (w : World) : Prop := Inv C.w0 C.S0 L w
/-- Wherever the chunks hold, the run gives v and leaves the world. -/
def RunsTo (C : Ctx) (L : List Chunk) (s : Sem Value) (v : Value) : Prop := ∀ w, Holds C L w → s.run C.P w = .ok v w
/-- Wherever the chunks hold, the run gives some x, and chunks, of which R holds. -/
def Does {α : Type} (C : Ctx) (L : List Chunk) (s : Sem α) (R : α → List Chunk → Prop) : Prop :=
  ∀ w, Holds C L w → ∃ x w' L', s.run C.P w = .ok x w' ∧ Holds C L' w' ∧ R x L'

/-- The whole block b: its cells, of element type ty. -/
def pt (b : Nat) (cs : List Value) (ty : TypeId) : Chunk where
  sat w S := (∀ k, S k ↔ k = b) ∧ w.heap[b]? = some (.cells cs.toArray ty (0, 0))
  stab h hk := ⟨h.1, (hk b ((h.1 b).2 rfl)).trans h.2⟩
  dom h hb := by
    have := (h.1 _).1 hb
    subst this
    exact (Array.getElem?_eq_some_iff.1 h.2).1

/-- The whole block b: an object that is no row of cells. -/
def ob (b : Nat) (o : Obj) : Chunk where
  sat w S := (∀ k, S k ↔ k = b) ∧ w.heap[b]? = some o
  stab h hk := ⟨h.1, (hk b ((h.1 b).2 rfl)).trans h.2⟩
  dom h hb := by
    have := (h.1 _).1 hb
    subst this
    exact (Array.getElem?_eq_some_iff.1 h.2).1

/-- Both ways of a test. -/
def branch (t : Bool) (f : Bool → Prop) : Prop := (t = true → f true) ∧ (t = false → f false)
theorem branch.out {t : Bool} {f : Bool → Prop} (h : branch t f) : f t := by
  cases t
  · exact h.2 rfl
  · exact h.1 rfl

def forceL : List Value → (List Value → Prop) → Prop
  | [], K => K []
  | a :: l, K => forceL l fun l' => K (a :: l')
theorem forceL_out : ∀ {l : List Value} {K : List Value → Prop}, forceL l K → K l
  | [], _, h => h
  | _ :: l, K, h => forceL_out (l := l) (K := fun l' => K (_ :: l')) h
def lget {α : Type} : List α → Nat → Option α
  | [], _ => none
  | a :: _, 0 => some a
  | _ :: l, i + 1 => lget l i
theorem lget_eq {α : Type} : ∀ (l : List α) (i : Nat), lget l i = l[i]?
  | [], _ => rfl
  | _ :: _, 0 => rfl
  | _ :: l, i + 1 => by simp [lget, lget_eq l i]
def cellsL : Value → List Value
  | .agg ⟨l⟩ => l
  | v => [v]
theorem cellsL_eq (v : Value) : v.cells = (cellsL v).toArray := by cases v <;> rfl
/-- The list with those put over it, from place i on. -/
def over : List Value → Nat → List Value → List Value
  | l, _, [] => l
  | [], _, _ => []
  | _ :: l, 0, v :: vs => v :: over l 0 vs
  | a :: l, i + 1, vs => a :: over l i vs
def dropL {α : Type} : Nat → List α → List α
  | 0, l => l
  | _ + 1, [] => []
  | i + 1, _ :: l => dropL i l
def takeL {α : Type} : Nat → List α → List α
  | 0, _ => []
  | _ + 1, [] => []
  | i + 1, a :: l => a :: takeL i l
theorem dropL_eq {α : Type} : ∀ (i : Nat) (l : List α), dropL i l = l.drop i
  | 0, _ => rfl
  | _ + 1, [] => rfl
  | i + 1, _ :: l => by simp [dropL, dropL_eq i l]
theorem takeL_eq {α : Type} : ∀ (i : Nat) (l : List α), takeL i l = l.take i
  | 0, _ => rfl
  | _ + 1, [] => rfl
  | i + 1, a :: l => by simp [takeL, takeL_eq i l]
def scale (j sz : Nat) : Nat := match Nat.beq sz 1 with
  | true => j
  | false => j * sz
theorem scale_eq (j sz : Nat) : scale j sz = j * sz := by
  unfold scale
  split
  · rename_i h; have := Nat.eq_of_beq_eq_true h; subst this; simp
  · rfl
def addA : Addr → Nat → Addr
  | ⟨b, o, s⟩, 0 => ⟨b, o, s⟩
  | ⟨b, o, _⟩, n + 1 => ⟨b, o + (n + 1), none⟩
theorem addA_eq (a : Addr) (n : Nat) : addA a n = a.add n := by cases n <;> simp [addA, Addr.add]
def aggOf (tab : Tab) (t : TypeId) : Option Bool := match tget tab t with
  | some ⟨.struct _, _, _, _⟩ => some true
  | some ⟨.array _ _, _, _, _⟩ => some true
  | some _ => some false
  | none => none

/-- Two whole numbers. -/
def xbin (op : BinOp) (k : IntKind) (a b : Int) (K : Value → Prop) : Prop :=
  match op with
  | .add => ∃ c, c = k.wrap (a + b) ∧ K (.int k c)
  | .sub => ∃ c, c = k.wrap (a - b) ∧ K (.int k c)
  | .mul => ∃ c, c = k.wrap (a * b) ∧ K (.int k c)
  | .quo => b ≠ 0 ∧ ∃ c, c = k.wrap (a.tdiv b) ∧ K (.int k c)
  | .rem => b ≠ 0 ∧ ∃ c, c = a.tmod b ∧ K (.int k c)
  | .and => ∃ c, c = k.wrap (BitVec.ofInt k.bits a &&& BitVec.ofInt k.bits b).toNat ∧ K (.int k c)
  | .or => ∃ c, c = k.wrap (BitVec.ofInt k.bits a ||| BitVec.ofInt k.bits b).toNat ∧ K (.int k c)
  | .xor => ∃ c, c = k.wrap (BitVec.ofInt k.bits a ^^^ BitVec.ofInt k.bits b).toNat ∧ K (.int k c)
  | .andNot => ∃ c, c = k.wrap (BitVec.ofInt k.bits a &&& ~~~BitVec.ofInt k.bits b).toNat ∧ K (.int k c)
  | .eql => K (.bool (decide (a = b)))
  | .neq => K (.bool (decide (a ≠ b)))
  | .lss => K (.bool (decide (a < b)))
  | .leq => K (.bool (decide (a ≤ b)))
  | .gtr => K (.bool (decide (a > b)))
  | .geq => K (.bool (decide (a ≥ b)))
  | .shl => 0 ≤ b ∧ ∃ c, c = k.wrap (a * 2 ^ min b.toNat k.bits) ∧ K (.int k c)
  | .shr => 0 ≤ b ∧ ∃ c, c = a.fdiv (2 ^ min b.toNat k.bits) ∧ K (.int k c)

def kEq : IntKind → IntKind → Bool
  | .i8, .i8 => true | .i16, .i16 => true | .i32, .i32 => true | .i64, .i64 => true
  | .u8, .u8 => true | .u16, .u16 => true | .u32, .u32 => true | .u64, .u64 => true
  | _, _ => false
theorem kEq_eq {k k' : IntKind} (h : kEq k k' = true) : k = k' := by cases k <;> cases k' <;> first | rfl | cases h

def isV : Op → Bool
  | .move _ | .assign _ | .pick _ _ _ | .build _ _ | .nilCheck _ | .binOp _ _ _ _ _ | .unOp _ _ _ | .convert _ _ _ | .makeInterface _ _ | .makeFunc _ _ _
  | .fieldAddr _ _ _ | .field _ _ _ | .indexAddr _ _ _ | .index _ _ _ | .extract _ _ | .load _ _ | .slice _ _ _ _ _ | .lookup _ _ _ _ | .typeAssert _ _ _ _ | .entry _ => true
  | .call { callee := .builtin b, .. } => match b with
    | .len | .cap | .min | .max | .unsafeSliceData => true
    | _ => false
  | _ => false

def optV (e : Env) : Option Operand → (Option Value → Prop) → Prop
  | none, K => K none
  | some x, K => match ev e x with
    | some v => K (some v)
    | none => False
theorem ES.opt {n : Nat} {e : Env} {a : Act} (h : ES n e a) {x : Option Operand} {K : Option Value → Prop} (hk : optV e x K) : K (x.map a.eval) := by
  cases x with
  | none => exact hk
  | some x =>
    simp only [optV] at hk
    cases hx : ev e x with
    | none => simp [hx] at hk
    | some v => simp only [hx] at hk; simpa [h.eval hx] using hk

def buildX (tab : Tab) (fs : List (Nat × Nat)) (K : List Value → Prop) (ps : List (Nat × Value)) : List Value → Prop :=
  List.rec (motive := fun _ => List Value → Prop) (fun cs => forceL cs K)
    (fun p _ ih cs => match lget fs p.1 with
      | some (off, ft) => match tget tab ft with
        | some ti => (cellsL p.2).length = ti.size ∧ off + ti.size ≤ cs.length ∧ ih (over cs off (cellsL p.2))
        | none => False
      | none => False) ps
def allT (tab : Tab) : List (Nat × Nat) → Bool
  | [] => true
  | (_, t) :: r => match tget tab t with
    | some _ => allT tab r
    | none => false
theorem allT_mem {tab : Tab} : ∀ {l : List (Nat × Nat)}, allT tab l = true → ∀ x ∈ l, ∃ i, tget tab x.2 = some i
  | [], _, x, hx => by cases hx
  | (o, t) :: r, h, x, hx => by
    simp only [allT] at h
    cases ht : tget tab t with
    | none => simp [ht] at h
    | some i =>
      simp only [ht] at h
      rcases List.mem_cons.1 hx with rfl | hx
      · exact ⟨i, ht⟩
      · exact allT_mem h x hx
def partsV (e : Env) : List (Nat × Operand) → (List (Nat × Value) → Prop) → Prop
  | [], K => K []
  | (i, x) :: r, K => match ev e x with
    | some v => partsV e r fun l => K ((i, v) :: l)
    | none => False

/-- Operations that give a value and leave the world. -/
def XV (C : Ctx) (o : Oper) (e : Env) (L : List Chunk) (K : Value → Prop) : Prop :=
  match o.op with
  | .move x | .assign x => match ev e x with
    | some v => K v
    | none => False
  | .pick c a b => match ev e c with
    | some (.bool true) => match ev e a with
      | some v => K v
      | none => False
    | some (.bool false) => match ev e b with
      | some v => K v
      | none => False
    | _ => False
  | .build t parts => match tget C.tab t with
    | some ⟨.struct fs, _, _, zero⟩ => match allT C.tab fs with
      | true => partsV e parts.toList fun l => buildX C.tab fs (fun cs => K (.agg ⟨cs⟩)) l zero
      | false => False
    | _ => False
  | .nilCheck x => match ev e x with
    | some (.pointer (some a)) => K (.pointer (some a))
    | some (.func (.func f) p q) => K (.func (.func f) p q)
    | some (.iface t v) => K (.iface t v)
    | _ => False
  | .binOp op t x y _ => match ev e x with
    | some (.int k a) => match ev e y with
      | some (.int k' b) => match op with
        | .shl => xbin .shl k a b K
        | .shr => xbin .shr k a b K
        | op => match kEq k k' with
          | true => xbin op k a b K
          | false => False
      | _ => False
    | some (.bool a) => match ev e y with
      | some (.bool b) => match op with
        | .eql => match tget C.tab t with
          | some ⟨.bool, _, _, _⟩ => K (.bool (a == b))
          | _ => False
        | .neq => match tget C.tab t with
          | some ⟨.bool, _, _, _⟩ => K (.bool (a != b))
          | _ => False
        | _ => False
      | _ => False
    | some u => match ev e y with
      | some v => ∃ r, RunsTo C L (do eqGuard op t x y u v; binOp op t u v) r ∧ K r
      | none => False
    | none => False
  | .unOp op _ x => match ev e x with
    | some (.bool b) => match op with
      | .not => K (.bool (!b))
      | _ => False
    | some v => ∃ r, RunsTo C L (Op.unary op v) r ∧ K r
    | none => False
  | .convert src dst x => match ev e x with
    | some (.int k a) => match tget C.tab dst with
      | some ⟨.int k', _, _, _⟩ => match tget C.tab src with
        | some _ => ∃ c, c = k'.wrap a ∧ K (.int k' c)
        | none => False
      | _ => ∃ r, RunsTo C L (convert src dst (.int k a)) r ∧ K r
    | some v => ∃ r, RunsTo C L (convert src dst v) r ∧ K r
    | none => False
  | .makeInterface t x => match ev e x with
    | some v => match tget C.tab t with
      | some ⟨.iface, _, _, _⟩ => False
      | some _ => K (.iface t v)
      | none => False
    | none => False
  | .makeFunc fn first captured => evs e first.toList fun f => evs e captured.toList fun c => K (.func fn ⟨f⟩ ⟨c⟩)
  | .fieldAddr s x f => match ev e x with
    | some (.pointer (some ⟨b, o, sp⟩)) => match tget C.tab s with
      | some ⟨.struct fs, _, _, _⟩ => match lget fs f with
        | some (off, ft) => match tget C.tab ft with
          | some ⟨_, sz + 1, _, _⟩ => match off with
            | 0 => K (.pointer (some ⟨b, o, sp⟩))
            | off => K (.pointer (some ⟨b, o + off, none⟩))
          | _ => False
        | none => False
      | _ => False
    | _ => False
  | .field s x f => match ev e x with
    | some (.agg ⟨cs⟩) => match tget C.tab s with
      | some ⟨.struct fs, _, _, _⟩ => match lget fs f with
        | some (off, ft) => match aggOf C.tab ft with
          | some true => match tget C.tab ft with
            | some ti => forceL (takeL ti.size (dropL off cs)) fun l => K (.agg ⟨l⟩)
            | none => False
          | some false => match lget cs off with
            | some v => K v
            | none => False
          | none => False
        | none => False
      | _ => False
    | _ => False
  | .indexAddr t x i => match ev e x with
    | some (.slice (some ⟨b, o, none⟩) n _) => match ev e i with
      | some (.int _ i) => match tget C.tab t with
        | some ⟨.slice et, _, _, _⟩ => match tget C.tab et with
          | some ti => ∃ j : Nat, i = (j : Int) ∧ j < n ∧ K (.pointer (some ⟨b, o + scale j ti.size, none⟩))
          | none => False
        | _ => False
      | _ => False
    | some (.pointer (some ⟨b, o, none⟩)) => match ev e i with
      | some (.int _ i) => match tget C.tab t with
        | some ⟨.array n et, _, _, _⟩ => match tget C.tab et with
          | some ti => ∃ j : Nat, i = (j : Int) ∧ j < n ∧ K (.pointer (some ⟨b, o + scale j ti.size, none⟩))
          | none => False
        | _ => False
      | _ => False
    | _ => False
  | .index t x i => match ev e x with
    | some u => match ev e i with
      | some v => ∃ r, RunsTo C L (Instr.index t u v) r ∧ K r
      | none => False
    | none => False
  | .extract t i => match ev e t with
    | some (.tuple ⟨vs⟩) => match lget vs i with
      | some v => K v
      | none => False
    | _ => False
  | .load t a => match ev e a with
    | some v => ∃ r, RunsTo C L (Instr.loadAt t v) r ∧ match aggOf C.tab t with
      | some true => match r with
        | .agg ⟨l⟩ => forceL l fun l => K (.agg ⟨l⟩)
        | r => K r
      | _ => K r
    | none => False
  | .slice t x lo hi mx => match ev e x with
    | some v => optV e lo fun lo => optV e hi fun hi => optV e mx fun mx => ∃ r, RunsTo C L (Instr.sliceAt t v lo hi mx) r ∧ K r
    | none => False
  | .lookup t x i ok => match ev e x with
    | some u => match ev e i with
      | some v => ∃ r, RunsTo C L (Instr.lookup t u v ok) r ∧ K r
      | none => False
    | none => False
  | .typeAssert x t u ok => match ev e x with
    | some v => ∃ r, RunsTo C L (Instr.typeAssert v t u ok) r ∧ K r
    | none => False
  | .entry it => match ev e it with
    | some v => ∃ r, RunsTo C L (Instr.entry v) r ∧ K r
    | none => False
  | .call { callee := .builtin b, args := args, argTypes := ts } => evs e args.toList fun vs => match b, vs with
    | .len, [.slice _ n _] => match lget ts.toList 0 with
      | some t => match tget C.tab t with
        | some ⟨.slice _, _, _, _⟩ => K (.int .i64 n)
        | _ => False
      | none => False
    | .len, vs => ∃ r, RunsTo C L (Builtin.len_ ts o.type ⟨vs⟩) r ∧ K r
    | .cap, vs => ∃ r, RunsTo C L (Builtin.cap_ ts o.type ⟨vs⟩) r ∧ K r
    | .min, [.int k a, .int _ b] => ∃ c, c = min a b ∧ K (.int k c)
    | .max, [.int k a, .int _ b] => ∃ c, c = max a b ∧ K (.int k c)
    | .min, vs => ∃ r, RunsTo C L (Builtin.min_ ts o.type ⟨vs⟩) r ∧ K r
    | .max, vs => ∃ r, RunsTo C L (Builtin.max_ ts o.type ⟨vs⟩) r ∧ K r
    | .unsafeSliceData, vs => ∃ r, RunsTo C L (Builtin.unsafeSliceData_ ts o.type ⟨vs⟩) r ∧ K r
    | _, _ => False
  | _ => False

end Go.X

/- The symbolic executor's value operations are sound: what XV asks suffices. -/
namespace Go.X
set_option linter.unusedVariables false
set_option linter.unusedSimpArgs false

theorem ok_andThen {α β : Type} {r : Result α} {a : α} {w : World} {f : α → World → Result β} (h : r = .ok a w) : r.andThen f = f a w := by rw [h]; rfl

theorem TyOk.und {P : Program} {t : TypeId} {i : TyI} (h : TyOk P t i) : ∃ d, P.underlying t = some d ∧ kOk d i.k := by
  obtain ⟨d, inf, z, h1, _, _, _, _, _, h2⟩ := h; exact ⟨d, h1, h2⟩
theorem TyOk.info {P : Program} {t : TypeId} {i : TyI} (h : TyOk P t i) : ∃ inf z, P.info? t = some inf ∧ inf.size = i.size ∧ inf.bytes = i.bytes ∧ inf.zero = some z ∧ z.cells = i.zero.toArray := by
  obtain ⟨d, inf, z, _, h2, h3, h4, h5, h6, _⟩ := h; exact ⟨inf, z, h2, h3, h4, h5, by rw [← h6]⟩
theorem run_underlying' {P : Program} {w : World} {t : TypeId} {d : TypeDesc} (h : P.underlying t = some d) : (underlying t).run P w = .ok d w := by simp [underlying, h]
theorem run_sizeOf' {P : Program} {w : World} {t : TypeId} {i : TyI} (h : TyOk P t i) : (sizeOf t).run P w = .ok i.size w := by
  obtain ⟨inf, z, h1, h2, _⟩ := h.info
  simp [sizeOf, typeInfo, h1, h2]
theorem run_zero' {P : Program} {w : World} {t : TypeId} {i : TyI} (h : TyOk P t i) : ∃ z, (zeroValue t).run P w = .ok z w ∧ z.cells = i.zero.toArray := by
  obtain ⟨inf, z, h1, h2, _, h4, h5⟩ := h.info
  exact ⟨z, by simp [zeroValue, typeInfo, h1, h4], h5⟩

theorem kOk.slice {d : TypeDesc} {e : TypeId} (h : kOk d (.slice e)) : d = .slice e := by cases d <;> simp_all [kOk]
theorem kOk.array {d : TypeDesc} {n e : Nat} (h : kOk d (.array n e)) : d = .array n e := by cases d <;> simp_all [kOk]
theorem kOk.int {d : TypeDesc} {k : IntKind} (h : kOk d (.int k)) : d = .int k := by cases d <;> simp_all [kOk]
theorem kOk.bool {d : TypeDesc} (h : kOk d .bool) : d = .bool := by cases d <;> simp_all [kOk]
theorem kOk.map {d : TypeDesc} {k e : Nat} (h : kOk d (.map k e)) : d = .map k e := by cases d <;> simp_all [kOk]
theorem kOk.struct {d : TypeDesc} {l : List (Nat × Nat)} (h : kOk d (.struct l)) : ∃ fs, d = .struct fs ∧ fs.toList.map (fun f => (f.offset, f.type)) = l := by cases d <;> simp_all [kOk]

theorem run_isAgg' {P : Program} {tab : Tab} (hT : TabOk P tab) {w : World} {t : TypeId} {b : Bool} (h : aggOf tab t = some b) : (isAgg t).run P w = .ok b w := by
  unfold aggOf at h
  split at h
  · rename_i hh; cases h
    obtain ⟨d, hd, hk⟩ := (hT.get hh).und
    obtain ⟨fs, rfl, _⟩ := kOk.struct hk
    simp [isAgg, run_underlying' hd]
  · rename_i hh; cases h
    obtain ⟨d, hd, hk⟩ := (hT.get hh).und
    obtain rfl := kOk.array hk
    simp [isAgg, run_underlying' hd]
  · rename_i i hs ha hh; cases h
    obtain ⟨d, hd, hk⟩ := (hT.get hh).und
    obtain ⟨k, _, _, _⟩ := i
    cases k <;> cases d <;> simp [kOk] at hk <;> first | (simp [isAgg, run_underlying' hd]; done) | (exact absurd rfl (ha _ _ _ _ _)) | (exact absurd rfl (hs _ _ _ _))
  · cases h

theorem lget_fields {fs : Array Field} {l : List (Nat × Nat)} (h : fs.toList.map (fun f => (f.offset, f.type)) = l) {i off ft : Nat} (hi : lget l i = some (off, ft)) :
    ∃ f, fs[i]? = some f ∧ f.offset = off ∧ f.type = ft := by
  rw [lget_eq, ← h, List.getElem?_map] at hi
  cases hf : fs.toList[i]? with
  | none => simp [hf] at hi
  | some f => simp [hf] at hi; exact ⟨f, by simpa using hf, hi.1, hi.2⟩

theorem over_length : ∀ (l : List Value) (i : Nat) (vs : List Value), (over l i vs).length = l.length
  | l, _, [] => by simp [over]
  | [], _, _ :: _ => by simp [over]
  | _ :: l, 0, v :: vs => by simp [over, over_length l 0 vs]
  | a :: l, i + 1, v :: vs => by simp [over, over_length l i (v :: vs)]

theorem over_foldl : ∀ (vs : List Value) (l : List Value) (i k : Nat),
    ((vs.zipIdx k).foldl (fun cs (x : Value × Nat) => cs.setIfInBounds (i + x.2) x.1) l.toArray) = (over l (i + k) vs).toArray := by
  have key : ∀ (v : Value) (vs l : List Value) (j : Nat), over (l.set j v) (j + 1) vs = over l j (v :: vs) := by
    intro v vs l
    induction l with
    | nil => intro j; cases vs <;> simp [over]
    | cons a l ih =>
      intro j
      cases j with
      | zero => cases vs <;> simp [over]
      | succ j =>
        cases vs with
        | nil => simp only [List.set_cons_succ, over]; have := ih j; simp only [over] at this; rw [this]
        | cons u vs => simp only [List.set_cons_succ, over]; rw [ih j]
  intro vs
  induction vs with
  | nil => intro l i k; simp [over]
  | cons v vs ih =>
    intro l i k
    simp only [List.zipIdx_cons, List.foldl_cons]
    have hs : l.toArray.setIfInBounds (i + k) v = (l.set (i + k) v).toArray := by simp
    rw [hs, ih (l.set (i + k) v) i (k + 1), ← key v vs l (i + k)]
    rfl

theorem fill_ok {tab : Tab} {P : Program} (hT : TabOk P tab) {fs : List (Nat × Nat)} {places : Array (Nat × Nat)}
    (hp : ∀ i off ft ti, lget fs i = some (off, ft) → tget tab ft = some ti → places[i]? = some (off, ti.size)) :
    ∀ (parts : List (Nat × Value)) (cs : List Value) (K : List Value → Prop), buildX tab fs K parts cs → ∃ cs', Instr.fill (places[·]?) cs.toArray parts = some cs'.toArray ∧ K cs'
  | [], cs, K, h => ⟨cs, rfl, forceL_out h⟩
  | (i, v) :: r, cs, K, h => by
    have h : (match lget fs i with | some (off, ft) => (match tget tab ft with | some ti => (cellsL v).length = ti.size ∧ off + ti.size ≤ cs.length ∧ buildX tab fs K r (over cs off (cellsL v)) | none => False) | none => False) := h
    split at h
    · rename_i off ft hl
      split at h
      · rename_i ti ht
        obtain ⟨h1, h2, h3⟩ := h
        obtain ⟨cs', hf, hk⟩ := fill_ok hT hp r _ K h3
        refine ⟨cs', ?_, hk⟩
        simp only [Instr.fill, hp i off ft ti hl ht]
        have hsz : v.cells.size = ti.size := by rw [cellsL_eq]; simpa using h1
        rw [if_neg (by simp [hsz]; omega)]
        have := over_foldl (cellsL v) cs off 0
        rw [cellsL_eq v]
        rw [← Array.foldl_toList, Array.toList_zipIdx]
        show Instr.fill _ (((cellsL v).zipIdx).foldl (fun cs (x : Value × Nat) => cs.setIfInBounds (off + x.2) x.1) cs.toArray) r = _
        rw [this]
        simpa using hf
      · exact h.elim
    · exact h.elim

theorem places_ok {P : Program} {tab : Tab} (hT : TabOk P tab) {w : World} : ∀ (fs : List Field), (∀ f ∈ fs, ∃ ti, tget tab f.type = some ti) →
    ∃ ps : List (Nat × Nat), (fs.mapM fun f => (do pure (f.offset, ← sizeOf f.type) : Sem (Nat × Nat))).run P w = .ok ps w ∧
      ∀ (i : Nat) (f : Field) (ti : TyI), fs[i]? = some f → tget tab f.type = some ti → ps[i]? = some (f.offset, ti.size)
  | [], _ => ⟨[], by simp, by simp⟩
  | f :: fs, h => by
    obtain ⟨ti, ht⟩ := h f (by simp)
    obtain ⟨ps, h1, h2⟩ := places_ok (w := w) hT fs fun g hg => h g (by simp [hg])
    refine ⟨(f.offset, ti.size) :: ps, ?_, ?_⟩
    · have hs := run_sizeOf' (w := w) (hT.get ht)
      simp only [List.mapM_cons, Sem.run_bind, hs, h1, Result.andThen_ok, Sem.run_pure]
    · intro i g tj hi hj
      cases i with
      | zero => simp at hi; subst hi; rw [ht] at hj; cases hj; rfl
      | succ i => simpa using h2 i g tj (by simpa using hi) hj

end Go.X

/- The symbolic executor's value operations are sound: each of them. -/
namespace Go.X
set_option linter.unusedVariables false
set_option linter.unusedSimpArgs false

section
variable {C : Ctx} {o : Oper} {e : Env} {L : List Chunk} {K : Value → Prop} {a : Act}

/-- What soundness says of one operation. -/
def VOk (C : Ctx) (o : Oper) (L : List Chunk) (K : Value → Prop) (a : Act) : Prop := ∃ v, K v ∧ ∀ w, Holds C L w → (execOp a.eval o).run C.P w = .ok (.value v) w

theorem VOk.of {s : Sem Value} {v : Value} (hs : execOp a.eval o = (do Pure.pure (Next.value (← s)) : Sem Next)) (hr : RunsTo C L s v) (hk : K v) : VOk C o L K a :=
  ⟨v, hk, fun w hw => by rw [hs, Sem.run_bind, hr w hw]; rfl⟩

/-- A value that hangs on no memory. -/
def VOkP (C : Ctx) (o : Oper) (K : Value → Prop) (a : Act) : Prop := ∃ v, K v ∧ ∀ w, (execOp a.eval o).run C.P w = .ok (.value v) w
theorem VOkP.ok (h : VOkP C o K a) : VOk C o L K a := let ⟨v, hk, hr⟩ := h; ⟨v, hk, fun w _ => hr w⟩
theorem VOkP.ofPure {s : Sem Value} {v : Value} (hs : execOp a.eval o = (do Pure.pure (Next.value (← s)) : Sem Next)) (hr : ∀ w, s.run C.P w = .ok v w) (hk : K v) : VOkP C o K a :=
  ⟨v, hk, fun w => by rw [hs, Sem.run_bind, hr w]; rfl⟩
theorem VOk.ofPure {s : Sem Value} {v : Value} (hs : execOp a.eval o = (do Pure.pure (Next.value (← s)) : Sem Next)) (hr : ∀ w, s.run C.P w = .ok v w) (hk : K v) : VOk C o L K a := .of hs (fun w _ => hr w) hk

theorem VOkP.move (ha : ES C.n e a) {x : Operand} (hop : o.op = .move x ∨ o.op = .assign x) (h : match ev e x with | some v => K v | none => False) : VOkP C o K a := by
  cases hx : ev e x with
  | none => simp [hx] at h
  | some v =>
    simp only [hx] at h
    refine ⟨v, h, fun w => ?_⟩
    rcases hop with hop | hop <;> simp [execOp, hop, ha.eval hx]

theorem VOkP.pick (ha : ES C.n e a) {c x y : Operand} (hop : o.op = .pick c x y) (h : XV C o e L K) : VOkP C o K a := by
  unfold XV at h
  simp only [hop] at h
  split at h
  · rename_i hc
    split at h
    · rename_i v hx
      exact ⟨v, h, fun w => by simp [execOp, hop, ha.eval hc, ha.eval hx, asBool]⟩
    · exact h.elim
  · rename_i hc
    split at h
    · rename_i v hx
      exact ⟨v, h, fun w => by simp [execOp, hop, ha.eval hc, ha.eval hx, asBool]⟩
    · exact h.elim
  · exact h.elim

theorem ES.parts {n : Nat} (ha : ES n e a) : ∀ {l : List (Nat × Operand)} {K : List (Nat × Value) → Prop}, partsV e l K → K (l.map fun x => (x.1, a.eval x.2))
  | [], _, h => h
  | (i, x) :: r, K, h => by
    simp only [partsV] at h
    cases hx : ev e x with
    | none => simp [hx] at h
    | some v =>
      simp only [hx] at h
      have := ha.parts h
      simpa [ha.eval hx] using this

theorem VOkP.build (hT : TabOk C.P C.tab) (ha : ES C.n e a) {t : TypeId} {parts : Array (Nat × Operand)} (hop : o.op = .build t parts) (h : XV C o e L K) : VOkP C o K a := by
  unfold XV at h
  simp only [hop] at h
  split at h
  · rename_i fs s b zero ht
    split at h
    · rename_i hall
      have h' := ha.parts h
      obtain ⟨d, hd, hk⟩ := (hT.get ht).und
      obtain ⟨gs, rfl, hgs⟩ := kOk.struct hk
      have hmem : ∀ f ∈ gs.toList, ∃ ti, tget C.tab f.type = some ti := fun f hf => allT_mem hall (f.offset, f.type) (by rw [← hgs]; exact List.mem_map_of_mem hf)
      have hpl : ∀ w, ∃ ps : List (Nat × Nat), (gs.mapM fun f => (do Pure.pure (f.offset, ← sizeOf f.type) : Sem (Nat × Nat))).run C.P w = .ok ps.toArray w ∧
          ∀ (i : Nat) (f : Field) (ti : TyI), gs[i]? = some f → tget C.tab f.type = some ti → ps[i]? = some (f.offset, ti.size) := fun w => by
        obtain ⟨ps, h1, h2⟩ := places_ok (w := w) hT gs.toList hmem
        refine ⟨ps, ?_, fun i f ti hi => h2 i f ti (by simpa using hi)⟩
        rw [Array.mapM_eq_mapM_toList, Sem.run_map, h1]
        rfl
      have hex : ∃ cs, K (.agg ⟨cs⟩) ∧ ∀ w, (Instr.build t ((parts.map fun (i, x) => (i, a.eval x)))).run C.P w = .ok (.agg ⟨cs⟩) w := by
        have hpw := hpl default
        obtain ⟨ps, _, hps⟩ := hpw
        obtain ⟨cs, hf, hk'⟩ := fill_ok hT (places := ps.toArray) (fun i off ft ti hl hti => by
          obtain ⟨f, hf1, hf2, hf3⟩ := lget_fields hgs hl
          have := hps i f ti hf1 (by rw [hf3]; exact hti)
          simpa [hf2] using this) _ zero _ h'
        refine ⟨cs, hk', fun w => ?_⟩
        obtain ⟨ps', hr, hps'⟩ := hpl w
        have hsame : ∀ i off ft ti, lget fs i = some (off, ft) → tget C.tab ft = some ti → ps'.toArray[i]? = some (off, ti.size) := fun i off ft ti hl hti => by
          obtain ⟨f, hf1, hf2, hf3⟩ := lget_fields hgs hl
          have := hps' i f ti hf1 (by rw [hf3]; exact hti)
          simpa [hf2] using this
        obtain ⟨z, hz, hzc⟩ := run_zero' (w := w) (hT.get ht)
        have hfill : ∀ (l : List (Nat × Value)) (c : List Value) (K' : List Value → Prop), buildX C.tab fs K' l c → Instr.fill (ps'.toArray[·]?) c.toArray l = Instr.fill (ps.toArray[·]?) c.toArray l := by
          intro l
          induction l with
          | nil => intro c K' _; rfl
          | cons x l ih =>
            obtain ⟨i, v⟩ := x
            intro c K' hb
            have hb : (match lget fs i with | some (off, ft) => (match tget C.tab ft with | some ti => (cellsL v).length = ti.size ∧ off + ti.size ≤ c.length ∧ buildX C.tab fs K' l (over c off (cellsL v)) | none => False) | none => False) := hb
            split at hb
            · rename_i off ft hl
              split at hb
              · rename_i ti hti
                have e1 := hsame i off ft ti hl hti
                have e2 : ps.toArray[i]? = some (off, ti.size) := by
                  obtain ⟨f, hf1, hf2, hf3⟩ := lget_fields hgs hl
                  have := hps i f ti hf1 (by rw [hf3]; exact hti)
                  simpa [hf2] using this
                obtain ⟨hb1, hb2, hb3⟩ := hb
                simp only [Instr.fill, e1, e2]
                have hsz : v.cells.size = ti.size := by rw [cellsL_eq]; simpa using hb1
                rw [if_neg (by simp [hsz]; omega), if_neg (by simp [hsz]; omega)]
                have hfold := over_foldl (cellsL v) c off 0
                rw [cellsL_eq v, ← Array.foldl_toList, Array.toList_zipIdx]
                show Instr.fill _ (((cellsL v).zipIdx).foldl (fun cs (x : Value × Nat) => cs.setIfInBounds (off + x.2) x.1) c.toArray) l = Instr.fill _ (((cellsL v).zipIdx).foldl (fun cs (x : Value × Nat) => cs.setIfInBounds (off + x.2) x.1) c.toArray) l
                rw [hfold]
                exact ih _ _ hb3
              · exact hb.elim
            · exact hb.elim
        have hl : (parts.map fun (i, x) => (i, a.eval x)).toList = parts.toList.map fun x => (x.1, a.eval x.2) := by simp
        simp only [Instr.build, Sem.run_bind, hz, Result.andThen_ok, Sem.run_pure, run_underlying' hd, hr, hzc]
        rw [hl, hfill _ _ _ h', hf]
        rfl
      obtain ⟨cs, hk', hr⟩ := hex
      exact .ofPure (s := Instr.build t (parts.map fun (i, x) => (i, a.eval x))) (by simp [execOp, hop]) hr hk'
    · exact h.elim
  · exact h.elim

theorem VOkP.nilCheck (ha : ES C.n e a) {x : Operand} (hop : o.op = .nilCheck x) (h : XV C o e L K) : VOkP C o K a := by
  unfold XV at h
  simp only [hop] at h
  split at h
  · rename_i p hx; exact ⟨_, h, fun w => by simp [execOp, hop, ha.eval hx]⟩
  · rename_i f p q hx; exact ⟨_, h, fun w => by simp [execOp, hop, ha.eval hx]⟩
  · rename_i t v hx; exact ⟨_, h, fun w => by simp [execOp, hop, ha.eval hx]⟩
  · exact h.elim

theorem xbin_sound {op : BinOp} {t : TypeId} {x y : Operand} {k k' : IntKind} {p q : Int} {P : Program} (hkk : op = .shl ∨ op = .shr ∨ k = k') (h : xbin op k p q K) :
    ∃ v, K v ∧ ∀ w, (do eqGuard op t x y (.int k p) (.int k' q); binOp op t (.int k p) (.int k' q) : Sem Value).run P w = .ok v w := by
  have hshl : op = .shl → ∃ v, K v ∧ ∀ w, (do eqGuard op t x y (.int k p) (.int k' q); binOp op t (.int k p) (.int k' q) : Sem Value).run P w = .ok v w := by
    rintro rfl
    simp only [xbin] at h
    obtain ⟨h0, c, rfl, hk⟩ := h
    exact ⟨_, hk, fun w => by simp only [eqGuard, binOp, Op.shift, if_neg (show ¬ q < 0 by omega)]; rfl⟩
  have hshr : op = .shr → ∃ v, K v ∧ ∀ w, (do eqGuard op t x y (.int k p) (.int k' q); binOp op t (.int k p) (.int k' q) : Sem Value).run P w = .ok v w := by
    rintro rfl
    simp only [xbin] at h
    obtain ⟨h0, c, rfl, hk⟩ := h
    exact ⟨_, hk, fun w => by simp only [eqGuard, binOp, Op.shift, if_neg (show ¬ q < 0 by omega)]; rfl⟩
  rcases hkk with hkk | hkk | rfl
  · exact hshl hkk
  · exact hshr hkk
  · cases op
    case shl => exact hshl rfl
    case shr => exact hshr rfl
    all_goals simp only [xbin] at h
    case quo => obtain ⟨h0, c, rfl, hk⟩ := h; exact ⟨_, hk, fun w => by simp [eqGuard, binOp, Op.intDiv, h0]⟩
    case rem => obtain ⟨h0, c, rfl, hk⟩ := h; exact ⟨_, hk, fun w => by simp [eqGuard, binOp, Op.intDiv, h0]⟩
    case eql => exact ⟨_, h, fun w => by simp [eqGuard, binOp, Op.intCmp]; rfl⟩
    case neq => exact ⟨_, h, fun w => by by_cases hpq : p = q <;> simp [eqGuard, binOp, Op.intCmp, hpq]⟩
    case lss => exact ⟨_, h, fun w => by simp [eqGuard, binOp, Op.intCmp]⟩
    case leq => exact ⟨_, h, fun w => by simp [eqGuard, binOp, Op.intCmp]⟩
    case gtr => exact ⟨_, h, fun w => by simp [eqGuard, binOp, Op.intCmp]⟩
    case geq => exact ⟨_, h, fun w => by simp [eqGuard, binOp, Op.intCmp]⟩
    all_goals (obtain ⟨c, rfl, hk⟩ := h; exact ⟨_, hk, fun w => by simp [eqGuard, binOp, Op.intArith, Op.intBits]⟩)

theorem run_bool_in {P : Program} (d : Nat) {t : TypeId} (ht : P.underlying t = some .bool) (p q : Bool) (w : World) : (Op.equalIn (d + 1) t (.bool p) (.bool q)).run P w = .ok (p == q) w := by
  simp only [Op.equalIn, Sem.run_bind, run_underlying' ht, Result.andThen_ok, Sem.run_pure]
theorem run_bool_eq {P : Program} {t : TypeId} (ht : P.underlying t = some .bool) (p q : Bool) (w : World) : (Op.equal t (.bool p) (.bool q)).run P w = .ok (p == q) w :=
  run_bool_in 9999 ht p q w

theorem VOk.binOp (hT : TabOk C.P C.tab) (ha : ES C.n e a) {op : BinOp} {t t' : TypeId} {x y : Operand} (hop : o.op = .binOp op t x y t') (h : XV C o e L K) : VOk C o L K a := by
  unfold XV at h
  simp only [hop] at h
  have hs : execOp a.eval o = (do Pure.pure (Next.value (← (do eqGuard op t x y (a.eval x) (a.eval y); Go.binOp op t (a.eval x) (a.eval y)))) : Sem Next) := by simp only [execOp, hop]
  split at h
  · rename_i k p hx
    split at h
    · rename_i k' q hy
      rw [ha.eval hx, ha.eval hy] at hs
      split at h
      · obtain ⟨v, hk, hr⟩ := xbin_sound (t := t) (x := x) (y := y) (k' := k') (P := C.P) (.inl rfl) h; exact .ofPure hs hr hk
      · obtain ⟨v, hk, hr⟩ := xbin_sound (t := t) (x := x) (y := y) (k' := k') (P := C.P) (.inr (.inl rfl)) h; exact .ofPure hs hr hk
      · split at h
        · rename_i hkk
          obtain ⟨v, hk, hr⟩ := xbin_sound (t := t) (x := x) (y := y) (k' := k') (P := C.P) (.inr (.inr (kEq_eq hkk))) h; exact .ofPure hs hr hk
        · exact h.elim
    · exact h.elim
  · rename_i p hx
    split at h
    · rename_i q hy
      rw [ha.eval hx, ha.eval hy] at hs
      split at h
      · split at h
        · rename_i ht
          obtain ⟨d, hd, hk⟩ := (hT.get ht).und
          obtain rfl := kOk.bool hk
          exact .ofPure hs (fun w => by
            have e1 : ∀ (r : Sem Value), (do eqGuard .eql t x y (.bool p) (.bool q); r) = r := fun r => rfl
            rw [e1]
            show ((Op.equal t (.bool p) (.bool q)).bind _).run C.P w = _
            rw [Sem.run_bind', run_bool_eq hd]; rfl) h
        · exact h.elim
      · split at h
        · rename_i ht
          obtain ⟨d, hd, hk⟩ := (hT.get ht).und
          obtain rfl := kOk.bool hk
          exact .ofPure hs (fun w => by
            have e1 : ∀ (r : Sem Value), (do eqGuard .neq t x y (.bool p) (.bool q); r) = r := fun r => rfl
            rw [e1]
            show ((Op.equal t (.bool p) (.bool q)).bind _).run C.P w = _
            rw [Sem.run_bind', run_bool_eq hd]; rfl) h
        · exact h.elim
      · exact h.elim
    · exact h.elim
  · rename_i u _ _ hx
    split at h
    · rename_i v hy
      rw [ha.eval hx, ha.eval hy] at hs
      obtain ⟨r, hr, hk⟩ := h
      exact .of hs hr hk
    · exact h.elim
  · exact h.elim

theorem VOk.unOp (ha : ES C.n e a) {op : UnOp} {t : TypeId} {x : Operand} (hop : o.op = .unOp op t x) (h : XV C o e L K) : VOk C o L K a := by
  unfold XV at h
  simp only [hop] at h
  split at h
  · rename_i b hx
    split at h
    · exact .ofPure (s := Op.unary .not (.bool b)) (by simp [execOp, hop, ha.eval hx]) (fun w => rfl) h
    · exact h.elim
  · rename_i v _ hx
    obtain ⟨r, hr, hk⟩ := h
    exact .of (by simp [execOp, hop, ha.eval hx]) hr hk
  · exact h.elim

theorem VOk.convert (hT : TabOk C.P C.tab) (ha : ES C.n e a) {s d : TypeId} {x : Operand} (hop : o.op = .convert s d x) (h : XV C o e L K) : VOk C o L K a := by
  unfold XV at h
  simp only [hop] at h
  split at h
  · rename_i k p hx
    split at h
    · rename_i k' _ _ _ hd
      split at h
      · rename_i i hs
        obtain ⟨c, rfl, hk⟩ := h
        obtain ⟨d1, hd1, hk1⟩ := (hT.get hd).und
        obtain rfl := kOk.int hk1
        obtain ⟨d2, hd2, _⟩ := (hT.get hs).und
        exact .ofPure (s := Go.convert s d (.int k p)) (by simp [execOp, hop, ha.eval hx]) (fun w => by simp [Go.convert, run_underlying' hd1, run_underlying' hd2, Conv.intToInt]) hk
      · exact h.elim
    · obtain ⟨r, hr, hk⟩ := h
      exact .of (by simp [execOp, hop, ha.eval hx]) hr hk
  · rename_i v _ hx
    obtain ⟨r, hr, hk⟩ := h
    exact .of (by simp [execOp, hop, ha.eval hx]) hr hk
  · exact h.elim

theorem VOkP.makeInterface (hT : TabOk C.P C.tab) (ha : ES C.n e a) {t : TypeId} {x : Operand} (hop : o.op = .makeInterface t x) (h : XV C o e L K) : VOkP C o K a := by
  unfold XV at h
  simp only [hop] at h
  split at h
  · rename_i v hx
    split at h
    · exact h.elim
    · rename_i i hni ht
      obtain ⟨d, hd, hk⟩ := (hT.get ht).und
      refine .ofPure (s := Instr.makeInterface t v) (by simp [execOp, hop, ha.eval hx]) (fun w => ?_) h
      simp only [Instr.makeInterface, Sem.run_bind, run_underlying' hd, Result.andThen_ok]
      obtain ⟨k, s, b, z⟩ := i
      cases d <;> first | rfl | skip
      cases k <;> simp [kOk] at hk
      exact absurd rfl (hni _ _ _)
    · exact h.elim
  · exact h.elim

theorem VOkP.makeFunc (ha : ES C.n e a) {fn : Fn} {p q : Array Operand} (hop : o.op = .makeFunc fn p q) (h : XV C o e L K) : VOkP C o K a := by
  unfold XV at h
  simp only [hop] at h
  have h1 := ha.evals (ha.evals h)
  refine .ofPure (s := Instr.makeFunc fn (p.map a.eval) (q.map a.eval)) (by simp [execOp, hop]) (fun w => rfl) (v := .func fn (p.map a.eval) (q.map a.eval)) ?_
  have e1 : p.map a.eval = ⟨p.toList.map a.eval⟩ := by apply Array.ext'; simp
  have e2 : q.map a.eval = ⟨q.toList.map a.eval⟩ := by apply Array.ext'; simp
  rw [e1, e2]
  exact h1

theorem VOkP.fieldAddr (hT : TabOk C.P C.tab) (ha : ES C.n e a) {s : TypeId} {x : Operand} {f : Nat} (hop : o.op = .fieldAddr s x f) (h : XV C o e L K) : VOkP C o K a := by
  unfold XV at h
  simp only [hop] at h
  split at h
  · rename_i b o' sp hx
    split at h
    · rename_i fs _ _ _ ht
      split at h
      · rename_i off ft hl
        split at h
        · rename_i _ sz _ _ hft
          have h : K (.pointer (some (addA ⟨b, o', sp⟩ off))) := by cases off <;> exact h
          obtain ⟨d, hd, hk⟩ := (hT.get ht).und
          obtain ⟨gs, rfl, hgs⟩ := kOk.struct hk
          obtain ⟨g, hg1, hg2, hg3⟩ := lget_fields hgs hl
          refine .ofPure (s := Instr.fieldAt s (.pointer (some ⟨b, o', sp⟩)) f) (by simp [execOp, hop, ha.eval hx]) (fun w => ?_) h
          have hsz := run_sizeOf' (w := w) (hT.get hft)
          rw [← hg3] at hsz
          simp [Instr.fieldAt, run_underlying' hd, hg1, Instr.sureAddr, fieldPlace, hsz, addA_eq, hg2]
        · exact h.elim
      · exact h.elim
    · exact h.elim
  · exact h.elim

theorem VOkP.field (hT : TabOk C.P C.tab) (ha : ES C.n e a) {s : TypeId} {x : Operand} {f : Nat} (hop : o.op = .field s x f) (h : XV C o e L K) : VOkP C o K a := by
  unfold XV at h
  simp only [hop] at h
  split at h
  · rename_i cs hx
    split at h
    · rename_i fs _ _ _ ht
      split at h
      · rename_i off ft hl
        obtain ⟨d, hd, hk⟩ := (hT.get ht).und
        obtain ⟨gs, rfl, hgs⟩ := kOk.struct hk
        obtain ⟨g, hg1, hg2, hg3⟩ := lget_fields hgs hl
        split at h
        · rename_i hagg
          split at h
          · rename_i ti hti
            have h := forceL_out h
            refine .ofPure (s := Instr.field s (.agg ⟨cs⟩) f) (by simp [execOp, hop, ha.eval hx]) (fun w => ?_) h
            have hsz := run_sizeOf' (w := w) (hT.get hti)
            have hag := run_isAgg' (w := w) hT hagg
            rw [← hg3] at hsz hag
            simp [Instr.field, run_underlying' hd, hg1, asAgg, part, hag, hsz, hg2, takeL_eq, dropL_eq, List.take_drop]
          · exact h.elim
        · rename_i hagg
          split at h
          · rename_i v hv
            refine .ofPure (s := Instr.field s (.agg ⟨cs⟩) f) (by simp [execOp, hop, ha.eval hx]) (fun w => ?_) h
            have hag := run_isAgg' (w := w) hT hagg
            rw [← hg3] at hag
            rw [lget_eq] at hv
            simp [Instr.field, run_underlying' hd, hg1, asAgg, part, hag, hg2, hv]
          · exact h.elim
        · exact h.elim
      · exact h.elim
    · exact h.elim
  · exact h.elim

theorem VOkP.indexAddr (hT : TabOk C.P C.tab) (ha : ES C.n e a) {t : TypeId} {x i : Operand} (hop : o.op = .indexAddr t x i) (h : XV C o e L K) : VOkP C o K a := by
  unfold XV at h
  simp only [hop] at h
  split at h
  · rename_i b off n c hx
    split at h
    · rename_i k iv hi
      split at h
      · rename_i et _ _ _ ht
        split at h
        · rename_i ti hti
          obtain ⟨j, rfl, hj, hk⟩ := h
          obtain ⟨d, hd, hkd⟩ := (hT.get ht).und
          obtain rfl := kOk.slice hkd
          refine .ofPure (s := Instr.indexAt t (.slice (some ⟨b, off, none⟩) n c) (.int k j)) (by simp [execOp, hop, ha.eval hx, ha.eval hi]) (fun w => ?_) hk
          have hsz := run_sizeOf' (w := w) (hT.get hti)
          simp [Instr.indexAt, asIntOf, run_underlying' hd, hsz, hj, Addr.add, scale_eq]
        · exact h.elim
      · exact h.elim
    · exact h.elim
  · rename_i b off hx
    split at h
    · rename_i k iv hi
      split at h
      · rename_i n et _ _ _ ht
        split at h
        · rename_i ti hti
          obtain ⟨j, rfl, hj, hk⟩ := h
          obtain ⟨d, hd, hkd⟩ := (hT.get ht).und
          obtain rfl := kOk.array hkd
          refine .ofPure (s := Instr.indexAt t (.pointer (some ⟨b, off, none⟩)) (.int k j)) (by simp [execOp, hop, ha.eval hx, ha.eval hi]) (fun w => ?_) hk
          have hsz := run_sizeOf' (w := w) (hT.get hti)
          simp [Instr.indexAt, asIntOf, run_underlying' hd, hsz, hj, Addr.add, scale_eq, Instr.sureAddr]
        · exact h.elim
      · exact h.elim
    · exact h.elim
  · exact h.elim

end
end Go.X

/- The symbolic executor: the rest of the value operations, effects, and lists of operations. -/
namespace Go.X
set_option linter.unusedVariables false
set_option linter.unusedSimpArgs false

section
variable {C : Ctx} {o : Oper} {e : Env} {L : List Chunk} {K : Value → Prop} {a : Act}

theorem VOk.opt1 {s : Sem Value} (hs : execOp a.eval o = (do Pure.pure (Next.value (← s)) : Sem Next)) (h : ∃ r, RunsTo C L s r ∧ K r) : VOk C o L K a :=
  let ⟨_, hr, hk⟩ := h; .of hs hr hk

theorem VOk.index (ha : ES C.n e a) {t : TypeId} {x i : Operand} (hop : o.op = .index t x i) (h : XV C o e L K) : VOk C o L K a := by
  unfold XV at h
  simp only [hop] at h
  split at h
  · rename_i u hx
    split at h
    · rename_i v hi
      exact .opt1 (by simp [execOp, hop, ha.eval hx, ha.eval hi]) h
    · exact h.elim
  · exact h.elim

theorem VOk.lookup (ha : ES C.n e a) {t : TypeId} {x i : Operand} {ok : Bool} (hop : o.op = .lookup t x i ok) (h : XV C o e L K) : VOk C o L K a := by
  unfold XV at h
  simp only [hop] at h
  split at h
  · rename_i u hx
    split at h
    · rename_i v hi
      exact .opt1 (by simp [execOp, hop, ha.eval hx, ha.eval hi]) h
    · exact h.elim
  · exact h.elim

theorem VOk.load (ha : ES C.n e a) {t : TypeId} {x : Operand} (hop : o.op = .load t x) (h : XV C o e L K) : VOk C o L K a := by
  unfold XV at h
  simp only [hop] at h
  split at h
  · rename_i u hx
    obtain ⟨r, hr, h⟩ := h
    refine .opt1 (by simp [execOp, hop, ha.eval hx]) ⟨r, hr, ?_⟩
    split at h
    · split at h
      · exact forceL_out h
      · exact h
    · exact h
  · exact h.elim

theorem VOk.entry (ha : ES C.n e a) {x : Operand} (hop : o.op = .entry x) (h : XV C o e L K) : VOk C o L K a := by
  unfold XV at h
  simp only [hop] at h
  split at h
  · rename_i u hx
    exact .opt1 (by simp [execOp, hop, ha.eval hx]) h
  · exact h.elim

theorem VOk.typeAssert (ha : ES C.n e a) {x : Operand} {t u : TypeId} {ok : Bool} (hop : o.op = .typeAssert x t u ok) (h : XV C o e L K) : VOk C o L K a := by
  unfold XV at h
  simp only [hop] at h
  split at h
  · rename_i v hx
    exact .opt1 (by simp [execOp, hop, ha.eval hx]) h
  · exact h.elim

theorem VOk.slice (ha : ES C.n e a) {x : Operand} {t : TypeId} {lo hi mx : Option Operand} (hop : o.op = .slice t x lo hi mx) (h : XV C o e L K) : VOk C o L K a := by
  unfold XV at h
  simp only [hop] at h
  split at h
  · rename_i v hx
    have h1 := ha.opt (ha.opt (ha.opt h))
    exact .opt1 (by simp [execOp, hop, ha.eval hx]) h1
  · exact h.elim

theorem VOkP.extract (ha : ES C.n e a) {t : Operand} {i : Nat} (hop : o.op = .extract t i) (h : XV C o e L K) : VOkP C o K a := by
  unfold XV at h
  simp only [hop] at h
  split at h
  · rename_i vs hx
    split at h
    · rename_i v hv
      rw [lget_eq] at hv
      exact .ofPure (s := Instr.extract (.tuple ⟨vs⟩) i) (by simp [execOp, hop, ha.eval hx]) (fun w => by simp [Instr.extract, hv]) h
    · exact h.elim
  · exact h.elim

theorem exec_builtin {b : Builtin} {args : Array Operand} {ts : Array TypeId} (hop : o.op = .call { callee := .builtin b, args := args, argTypes := ts }) :
    execOp a.eval o = builtin b ts o.type (args.map fun | .const _ => true | _ => false) (args.map a.eval) := by
  simp [execOp, hop, resolve, invoke]
  rfl

theorem VOk.builtin (hT : TabOk C.P C.tab) (ha : ES C.n e a) {b : Builtin} {args : Array Operand} {ts : Array TypeId} (hop : o.op = .call { callee := .builtin b, args := args, argTypes := ts }) (h : XV C o e L K) : VOk C o L K a := by
  unfold XV at h
  simp only [hop] at h
  have h := ha.evals h
  have he : args.map a.eval = ⟨args.toList.map a.eval⟩ := by apply Array.ext'; simp
  have hx := exec_builtin (a := a) hop
  rw [he] at hx
  generalize args.toList.map a.eval = vs at h hx
  split at h
  · split at h
    · rename_i t ht
      rw [lget_eq] at ht
      have ht' : ts[0]? = some t := by simpa using ht
      split at h
      · rename_i et _ _ _ hti
        obtain ⟨d, hd, hk⟩ := (hT.get hti).und
        obtain rfl := kOk.slice hk
        refine .ofPure (s := Builtin.len_ ts o.type _) (by rw [hx]; rfl) (fun w => ?_) h
        simp [Builtin.len_, ht', run_underlying' hd, goInt]
      · exact h.elim
    · exact h.elim
  · exact .opt1 (by rw [hx]; rfl) h
  · exact .opt1 (by rw [hx]; rfl) h
  · obtain ⟨c, rfl, hk⟩ := h
    rename_i k p k' q
    refine .ofPure (s := Builtin.min_ ts o.type ⟨[.int k p, .int k' q]⟩) (by rw [hx]; rfl) (fun w => ?_) hk
    have : min p q = if q < p then q else p := by by_cases hpq : q < p <;> simp [hpq] <;> omega
    rw [this]
    simp [Builtin.min_, Builtin.min2]
  · obtain ⟨c, rfl, hk⟩ := h
    rename_i k p k' q
    refine .ofPure (s := Builtin.max_ ts o.type ⟨[.int k p, .int k' q]⟩) (by rw [hx]; rfl) (fun w => ?_) hk
    have : max p q = if p < q then q else p := by by_cases hpq : p < q <;> simp [hpq] <;> omega
    rw [this]
    simp [Builtin.max_, Builtin.max2]
  · exact .opt1 (by rw [hx]; rfl) h
  · exact .opt1 (by rw [hx]; rfl) h
  · exact .opt1 (by rw [hx]; rfl) h
  · exact h.elim

theorem XV.sound (hT : TabOk C.P C.tab) (ha : ES C.n e a) (h : XV C o e L K) : VOk C o L K a := by
  cases hop : o.op
  case move x => exact (VOkP.move ha (.inl hop) (by unfold XV at h; simp only [hop] at h; exact h)).ok
  case assign x => exact (VOkP.move ha (.inr hop) (by unfold XV at h; simp only [hop] at h; exact h)).ok
  case pick => exact (VOkP.pick ha hop h).ok
  case build => exact (VOkP.build hT ha hop h).ok
  case nilCheck => exact (VOkP.nilCheck ha hop h).ok
  case binOp => exact .binOp hT ha hop h
  case unOp => exact .unOp ha hop h
  case convert => exact .convert hT ha hop h
  case makeInterface => exact (VOkP.makeInterface hT ha hop h).ok
  case makeFunc => exact (VOkP.makeFunc ha hop h).ok
  case fieldAddr => exact (VOkP.fieldAddr hT ha hop h).ok
  case field => exact (VOkP.field hT ha hop h).ok
  case indexAddr => exact (VOkP.indexAddr hT ha hop h).ok
  case index => exact .index ha hop h
  case extract => exact (VOkP.extract ha hop h).ok
  case load => exact .load ha hop h
  case slice => exact .slice ha hop h
  case lookup => exact .lookup ha hop h
  case typeAssert => exact .typeAssert ha hop h
  case entry => exact .entry ha hop h
  case call c =>
    obtain ⟨callee, args, ts⟩ := c
    cases callee
    case builtin => exact .builtin hT ha hop h
    all_goals (unfold XV at h; simp only [hop] at h)
  all_goals (unfold XV at h; simp only [hop] at h)
end

/-! ### effects -/
/-- A call, by a contract: A is handed to it, B is not touched. -/
@[irreducible] def CallX (C : Ctx) (L : List Chunk) (f : FuncId) (args : List Value) (K : Value → List Chunk → Prop) : Prop :=
  ∃ (A B : List Chunk) (Post : Value → List Chunk → Prop), Ent L (A ++ B) ∧
    (∀ w S, (∀ r, RO C.w0 C.S0 r → RO w S r) → (∀ r ∈ B, RO w S r) → Sep A w S → (∀ b, S b → b < w.heap.size) → ((∃ v, Post v A ∧ (callFunc f ⟨args⟩).run C.P w = .ok (.value v) w) ∨ Trip C.P f ⟨args⟩ w S Post)) ∧
    ∀ v L', Post v L' → K v (L' ++ B)
/-- A call: the chunks with the numbers 'is' are handed to it. -/
theorem callP {C : Ctx} {L : List Chunk} {f : FuncId} {args : List Value} {K : Value → List Chunk → Prop} (is : List Nat) {Post : Value → List Chunk → Prop}
    (hc : ∀ w S, (∀ r, RO C.w0 C.S0 r → RO w S r) → (∀ r ∈ (pick L is).2, RO w S r) → Sep (pick L is).1 w S → (∀ b, S b → b < w.heap.size) → Trip C.P f ⟨args⟩ w S Post)
    (hk : ∀ v L', Post v L' → K v (L' ++ (pick L is).2)) : CallX C L f args K := by
  unfold CallX
  exact ⟨_, _, Post, .both is, fun w S h1 h2 h3 h4 => .inr (hc w S h1 h2 h3 h4), hk⟩
/-- A call that the model answers at once. -/
theorem callV {C : Ctx} {L : List Chunk} {f : FuncId} {args : List Value} {K : Value → List Chunk → Prop} {v : Value} (hc : ∀ w, (callFunc f ⟨args⟩).run C.P w = .ok (.value v) w) (hk : K v L) : CallX C L f args K := by
  unfold CallX
  exact ⟨[], L, fun u L' => u = v ∧ L' = [], .refl _, fun w S _ _ _ _ => .inl ⟨v, ⟨rfl, rfl⟩, hc w⟩, by rintro _ _ ⟨rfl, rfl⟩; exact hk⟩

/-- Operations that may write, make memory, or call. -/
def XE (C : Ctx) (o : Oper) (e : Env) (L : List Chunk) (K : Value → List Chunk → Prop) : Prop :=
  match o.op with
  | .alloc t => match tget C.tab t with
    | some i => ∀ b, K (.pointer (some ⟨b, 0, none⟩)) (pt b i.zero t :: L)
    | none => False
  | .box t x => match ev e x with
    | some v => forceL (cellsL v) fun cs => ∀ b, K (.pointer (some ⟨b, 0, none⟩)) (pt b cs t :: L)
    | none => False
  | .buildSlice t len parts => match ev e (.const (.bool true)) with
    | some _ => partsV e parts.toList fun l => Does C L (Instr.buildSlice t len ⟨l⟩) K
    | none => False
  | .store t x y => match ev e x with
    | some u => match ev e y with
      | some v => Does C L (Instr.storeAt t u v) fun _ L' => K undef L'
      | none => False
    | none => False
  | .makeMap _ none => ∀ b, K (.map (some b)) (ob b (.map #[] 0) :: L)
  | .makeSlice t n c => match ev e n with
    | some u => match ev e c with
      | some v => Does C L (Instr.makeSlice t u v) K
      | none => False
    | none => False
  | .mapUpdate t m k x | .insert t m k x => match ev e m with
    | some m => match ev e k with
      | some k => match ev e x with
        | some x => Does C L (Instr.mapUpdate t m k x) fun _ L' => K undef L'
        | none => False
      | none => False
    | none => False
  | .mapEntry t m k => match ev e m with
    | some m => match ev e k with
      | some k => Does C L (Instr.mapEntry t m k) K
      | none => False
    | none => False
  | .entryStore t m s x => match ev e m with
    | some m => match ev e s with
      | some s => match ev e x with
        | some x => Does C L (Instr.entryStore t m s x) fun _ L' => K undef L'
        | none => False
      | none => False
    | none => False
  | .range t x => match ev e x with
    | some v => Does C L (Instr.range t v) K
    | none => False
  | .next it s => match ev e it with
    | some v => Does C L (Instr.next v s o.type) K
    | none => False
  | .call { callee := .value f, args := args, .. } => match ev e f with
    | some (.func (.func f) ⟨p⟩ ⟨q⟩) => evs e args.toList fun as => forceL (p ++ as ++ q) fun as => CallX C L f as K
    | _ => False
  | .call { callee := .invoke r name, args := args, .. } => match ev e r with
    | some (.iface t v) => evs e args.toList fun as => ∃ f r', (∀ w, (method (C.P.types.size + Made.depth) t v name).run C.P w = .ok (f, r') w) ∧ CallX C L f (r' :: as) K
    | _ => False
  | .call { callee := .builtin b, args := args, argTypes := ts } => evs e args.toList fun vs => match b with
    | .append => Does C L (Builtin.append_ ts o.type ⟨vs⟩) K
    | .copy => Does C L (Builtin.copy_ ts o.type ⟨vs⟩) K
    | .delete => Does C L (Builtin.delete_ ts o.type ⟨vs⟩) K
    | .clear => Does C L (Builtin.clear_ ts o.type ⟨vs⟩) K
    | .unsafeString => Does C L (Builtin.unsafeString_ ts o.type ⟨vs⟩) K
    | _ => False
  | _ => False

section
variable {C : Ctx} {o : Oper} {e : Env} {L : List Chunk} {K : Value → List Chunk → Prop} {a : Act}

/-- What soundness says of one operation with effects: whatever follows. -/
def EOk (C : Ctx) (o : Oper) (L : List Chunk) (K : Value → List Chunk → Prop) (a : Act) : Prop :=
  ∀ (next : Act → World → Prop) (Q : Exit → Act → World → Prop), (∀ v L' w', K v L' → Holds C L' w' → next (a.put o.dst v) w') → ∀ w, Holds C L w → o.wp C.P a w next Q

theorem EOk.of_does {s : Sem Value} (hs : execOp a.eval o = (do Pure.pure (Next.value (← s)) : Sem Next)) (h : Does C L s K) : EOk C o L K a := by
  intro next Q hn w hw
  obtain ⟨v, w', L', hr, hh, hk⟩ := h w hw
  unfold Oper.wp
  rw [hs, Sem.run_bind, hr]
  exact hn v L' w' hk hh

theorem EOk.of_does_unit {s : Sem Unit} (hs : execOp a.eval o = (do s; Pure.pure Next.skip : Sem Next)) (h : Does C L s fun _ L' => K undef L') : EOk C o L K a := by
  intro next Q hn w hw
  obtain ⟨v, w', L', hr, hh, hk⟩ := h w hw
  unfold Oper.wp
  rw [hs, Sem.run_bind, hr]
  exact hn undef L' w' hk hh

theorem EOk.of_new {s : Sem Value} {f : Nat → Value} {ob : Obj} {c : Nat → Chunk} (hs : execOp a.eval o = (do Pure.pure (Next.value (← s)) : Sem Next)) (hr : ∀ w, s.run C.P w = .ok (f w.heap.size) (w.alloc ob))
    (hc : ∀ w : World, (c w.heap.size).sat (w.alloc ob) (fun b => b = w.heap.size)) (h : ∀ b, K (f b) (c b :: L)) : EOk C o L K a :=
  .of_does hs fun w hw => ⟨_, _, _, hr w, Inv.alloc hw ob (hc w), h _⟩

theorem pt_new {w : World} {cs : List Value} {t : TypeId} {l : Array Value} (h : l = cs.toArray) : (pt w.heap.size cs t).sat (w.alloc (.cells l t)) (fun b => b = w.heap.size) := by
  subst h
  exact ⟨fun _ => Iff.rfl, by show (w.heap.push _)[w.heap.size]? = _; simp⟩
theorem ob_new {w : World} {o : Obj} : (ob w.heap.size o).sat (w.alloc o) (fun b => b = w.heap.size) := ⟨fun _ => Iff.rfl, by show (w.heap.push _)[w.heap.size]? = _; simp⟩

theorem EOk.call_f {f : FuncId} {as : List Value} (hs : execOp a.eval o = callFunc f ⟨as⟩) (h : CallX C L f as K) : EOk C o L K a := by
  intro next Q hn w hw
  unfold CallX at h
  obtain ⟨A, B, Post, hE, hc, hk⟩ := h
  obtain ⟨S1, h1, hd, hro, hrb, hgo⟩ := Inv.handOver (hE _ _ _ hw)
  rcases hc w S1 hro hrb h1 hd with ⟨v, hP, hrun⟩ | ⟨⟨fn, hf1, hf2, hf3⟩, hcall⟩
  · unfold Oper.wp
    rw [hs, hrun]
    exact hn v _ w (hk v A hP) (hE _ _ _ hw)
  unfold Oper.wp
  have hrun : (execOp a.eval o).run C.P w = .ok (.enter f ⟨as⟩) w := by
    rw [hs]
    simp only [callFunc, Sem.run_bind, run_program, Result.andThen_ok, hf1, hf2, hf3, Bool.false_eq_true, if_false]
    rfl
  rw [hrun]
  refine hcall.mono ?_
  rintro _ w' ⟨v, L', rfl, hP, hI⟩
  exact hn v _ w' (hk v L' hP) (hgo L' w' hI)

theorem XE.sound (hT : TabOk C.P C.tab) (ha : ES C.n e a) (h : XE C o e L K) : EOk C o L K a := by
  unfold XE at h
  split at h
  · rename_i t hop
    split at h
    · rename_i i ht
      exact .of_new (s := Instr.alloc t true (.tuple #[])) (by simp [execOp, hop]) (f := fun b => .pointer (some ⟨b, 0, none⟩)) (ob := .cells i.zero.toArray t) (c := fun b => pt b i.zero t)
        (fun w => by obtain ⟨z, hz, hzc⟩ := run_zero' (w := w) (hT.get ht); simp [Instr.alloc, hz, newVar, newRow, hzc]) (fun w => pt_new rfl) h
    · exact h.elim
  · rename_i t x hop
    split at h
    · rename_i v hx
      have h := forceL_out h
      exact .of_new (s := Instr.box t v) (by simp [execOp, hop, ha.eval hx]) (f := fun b => .pointer (some ⟨b, 0, none⟩)) (ob := .cells (cellsL v).toArray t) (c := fun b => pt b (cellsL v) t)
        (fun w => by simp [Instr.box, newVar, newRow, cellsL_eq]) (fun w => pt_new rfl) h
    · exact h.elim
  · rename_i t len parts hop
    split at h
    · have h := ha.parts h
      have hl : (⟨parts.toList.map fun x => (x.1, a.eval x.2)⟩ : Array (Nat × Value)) = parts.map fun (i, x) => (i, a.eval x) := by apply Array.ext'; simp
      rw [hl] at h
      exact .of_does (by simp [execOp, hop]) h
    · exact h.elim
  · rename_i t x y hop
    split at h
    · rename_i u hx
      split at h
      · rename_i v hy
        exact .of_does_unit (by simp [execOp, hop, ha.eval hx, ha.eval hy]) h
      · exact h.elim
    · exact h.elim
  · rename_i t hop
    exact .of_new (s := Instr.makeMap t none) (by simp [execOp, hop]) (f := fun b => .map (some b)) (ob := .map #[] 0) (c := fun b => ob b (.map #[] 0)) (fun w => by simp [Instr.makeMap]) (fun w => ob_new) h
  · rename_i t n c hop
    split at h
    · rename_i u hx
      split at h
      · rename_i v hy
        exact .of_does (by simp [execOp, hop, ha.eval hx, ha.eval hy]) h
      · exact h.elim
    · exact h.elim
  · rename_i t m k x hop
    split at h
    · rename_i m' hm
      split at h
      · rename_i k' hk
        split at h
        · rename_i x' hx
          exact .of_does_unit (by simp [execOp, hop, ha.eval hm, ha.eval hk, ha.eval hx]) h
        · exact h.elim
      · exact h.elim
    · exact h.elim
  · rename_i t m k x hop
    split at h
    · rename_i m' hm
      split at h
      · rename_i k' hk
        split at h
        · rename_i x' hx
          exact .of_does_unit (by simp [execOp, hop, ha.eval hm, ha.eval hk, ha.eval hx]) h
        · exact h.elim
      · exact h.elim
    · exact h.elim
  · rename_i t m k hop
    split at h
    · rename_i m' hm
      split at h
      · rename_i k' hk
        exact .of_does (by simp [execOp, hop, ha.eval hm, ha.eval hk]) h
      · exact h.elim
    · exact h.elim
  · rename_i t m k x hop
    split at h
    · rename_i m' hm
      split at h
      · rename_i k' hk
        split at h
        · rename_i x' hx
          exact .of_does_unit (by simp [execOp, hop, ha.eval hm, ha.eval hk, ha.eval hx]) h
        · exact h.elim
      · exact h.elim
    · exact h.elim
  · rename_i t x hop
    split at h
    · rename_i v hx
      exact .of_does (by simp [execOp, hop, ha.eval hx]) h
    · exact h.elim
  · rename_i it s hop
    split at h
    · rename_i v hx
      exact .of_does (by simp [execOp, hop, ha.eval hx]) h
    · exact h.elim
  · rename_i f args ts hop
    split at h
    · rename_i g p q hx
      have h := forceL_out (ha.evals h)
      refine .call_f ?_ h
      simp only [execOp, hop, resolve, ha.eval hx, Deferred.ofValue, pure_bind, invoke]
      exact congrArg (callFunc g) (Array.ext' (by simp))
    · exact h.elim
  · rename_i r name args ts hop
    split at h
    · rename_i t v hx
      obtain ⟨f, r', hm, h⟩ := ha.evals h
      intro next Q hn w hw
      have hs : execOp a.eval o = callMethod (.iface t v) name (args.map a.eval) := by
        simp only [execOp, hop, resolve, ha.eval hx, pure_bind, invoke]
        have h0 : (#[Value.iface t v] ++ Array.map a.eval args)[0]? = some (Value.iface t v) := by
          rw [Array.getElem?_append_left (by exact Nat.zero_lt_one)]; rfl
        rw [h0]
        exact congrArg (callMethod _ name) (Array.ext' (by simp [List.take_of_length_le]))
      have he : args.map a.eval = ⟨args.toList.map a.eval⟩ := by apply Array.ext'; simp
      have h2 : ∀ o' : Oper, o'.dst = o.dst → execOp a.eval o' = callFunc f ⟨r' :: args.toList.map a.eval⟩ → o'.wp C.P a w next Q := fun o' hd ho' =>
        EOk.call_f (o := o') ho' h next Q (by rw [hd]; exact hn) w hw
      have hrun : (execOp a.eval o).run C.P w = (callFunc f ⟨r' :: args.toList.map a.eval⟩).run C.P w := by
        rw [hs, he]
        simp [callMethod, hm]
      have h3 := h2 { o with op := .call { callee := .value (.const (.func (.func f) ⟨[]⟩ ⟨[]⟩)), args := ⟨.const r' :: args.toList⟩, argTypes := #[] } } rfl
        (by simp [execOp, resolve, Act.eval, Deferred.ofValue, invoke])
      unfold Oper.wp at h3 ⊢
      rw [hrun]
      have h4 : (execOp a.eval { o with op := .call { callee := .value (.const (.func (.func f) ⟨[]⟩ ⟨[]⟩)), args := ⟨.const r' :: args.toList⟩, argTypes := #[] } }) = callFunc f ⟨r' :: args.toList.map a.eval⟩ := by
        simp [execOp, resolve, Act.eval, Deferred.ofValue, invoke]
      rw [h4] at h3
      exact h3
    · exact h.elim
  · rename_i b args ts hop
    have h := ha.evals h
    have he : args.map a.eval = ⟨args.toList.map a.eval⟩ := by apply Array.ext'; simp
    have hx := exec_builtin (a := a) hop
    rw [he] at hx
    generalize args.toList.map a.eval = vs at h hx
    split at h
    · exact .of_does (by rw [hx]; rfl) h
    · exact .of_does (by rw [hx]; rfl) h
    · exact .of_does (by rw [hx]; rfl) h
    · exact .of_does (by rw [hx]; rfl) h
    · exact .of_does (by rw [hx]; rfl) h
    · exact h.elim
  · exact h.elim
end
end Go.X

/- Regions whose order is drawn, the last operation of which comes behind all others: the others only read (or call what only reads), the last one does what it likes. -/
namespace Go.X
set_option linter.unusedVariables false
set_option linter.unusedSimpArgs false

def depsOf (o : Oper) : List Nat := (o.after.toList.filter fun e => Region.binds .any e).map (·.on)
/-- Are all numbers below i among those that S leads to? -/
def sweep (ops : List Oper) : Nat → List Nat → Bool
  | 0, _ => true
  | i + 1, S => S.contains i && sweep ops i (S ++ ((ops[i]?).map depsOf).getD [])
/-- Edges lead to smaller numbers; guards, too. -/
def backB : List Oper → Nat → Bool
  | [], _ => true
  | o :: os, k => (depsOf o).all (· < k) && (match o.guard with | some (j, _) => decide (j < k) | none => true) && backB os (k + 1)
def tailB (pre : List Oper) (last : Oper) : Bool := backB (pre ++ [last]) 0 && sweep pre pre.length (depsOf last)

theorem backB_spec : ∀ {l : List Oper} {k : Nat}, backB l k = true → ∀ i o, l[i]? = some o → (∀ j ∈ depsOf o, j < k + i) ∧ ∀ j b, o.guard = some (j, b) → j < k + i
  | [], _, _, i, o, h => by simp at h
  | x :: l, k, hb, i, o, h => by
    simp only [backB, Bool.and_eq_true] at hb
    obtain ⟨⟨h1, h2⟩, h3⟩ := hb
    cases i with
    | zero =>
      simp at h; subst h
      refine ⟨fun j hj => by have := (List.all_eq_true.1 h1) j hj; simpa using this, fun j b hg => ?_⟩
      rw [hg] at h2; exact of_decide_eq_true h2 |> fun h => by omega
    | succ i =>
      have := backB_spec h3 i o (by simpa using h)
      exact ⟨fun j hj => by have := this.1 j hj; omega, fun j b hg => by have := this.2 j b hg; omega⟩

def okAt (o : Oper) (listed : Array Bool) : Bool := o.after.all fun e => !Region.binds .any e || listed.getD e.on false
theorem okAt_iff {o : Oper} {listed : Array Bool} : okAt o listed = true ↔ ∀ j ∈ depsOf o, listed.getD j false = true := by
  unfold okAt depsOf
  rw [← Array.all_toList, List.all_eq_true]
  constructor
  · intro h j hj
    obtain ⟨e, he, rfl⟩ := List.mem_map.1 hj
    obtain ⟨he1, he2⟩ := List.mem_filter.1 he
    simpa [he2] using h e he1
  · intro h e he
    cases hb : Region.binds .any e with
    | false => rfl
    | true => simpa using h e.on (List.mem_map.2 ⟨e, List.mem_filter.2 ⟨he, hb⟩, rfl⟩)
theorem mem_ready {ops : Array Oper} {listed : Array Bool} {i : Nat} : i ∈ Region.ready .any ops listed ↔ ∃ o, ops[i]? = some o ∧ listed.getD i true = false ∧ okAt o listed = true := by
  unfold Region.ready
  rw [List.mem_filter, List.mem_range]
  constructor
  · rintro ⟨h1, h2⟩
    cases ho : ops[i]? with
    | none => simp at ho; omega
    | some o => simp [ho] at h2; exact ⟨o, rfl, by simpa using h2.1, by unfold okAt; simpa using h2.2⟩
  · rintro ⟨o, ho, h2, h3⟩
    refine ⟨?_, ?_⟩
    · obtain ⟨hlt, _⟩ := Array.getElem?_eq_some_iff.1 ho; exact hlt
    · unfold okAt at h3
      rw [ho, h2]
      simpa only [Option.map_some, Option.getD_some, Bool.not_false, Bool.true_and] using h3

theorem ready_all {ops : Array Oper} {listed : Array Bool} (hs : listed.size = ops.size) (hb : backB ops.toList 0 = true) (hr : Region.ready .any ops listed = []) : ∀ i, i < ops.size → listed.getD i true = true := by
  intro i
  induction i using Nat.strongRecOn with
  | _ i ih =>
    intro hi
    cases hl : listed.getD i true with
    | true => rfl
    | false =>
      exfalso
      have ho : ops[i]? = some ops[i] := by simp [hi]
      have hmem : i ∈ Region.ready .any ops listed := mem_ready.2 ⟨_, ho, hl, okAt_iff.2 fun j hj => by
        have hlt := (backB_spec hb i ops[i] (by simp [hi])).1 j hj
        have := ih j (by omega) (by omega)
        simpa [Array.getD, show j < listed.size by omega] using this⟩
      rw [hr] at hmem
      cases hmem

section
variable {P : Program} {C : World → Prop} {pre : List Oper} {last : Oper}

structure Tl (pre : List Oper) (last : Oper) (listed pl : Array Bool) : Prop where
  s1 : listed.size = pre.length + 1
  s2 : pl.size = pre.length
  same : ∀ i, i < pre.length → listed.getD i true = pl.getD i true
  sameF : ∀ i, i < pre.length → listed.getD i false = pl.getD i false
  lastF : listed.getD pre.length true = false
  closed : ∀ (i : Nat) (o : Oper), pre[i]? = some o → pl.getD i false = true → okAt o pl = true

theorem getD_tf {l : Array Bool} {i : Nat} (h : i < l.size) : l.getD i true = l.getD i false := by simp [Array.getD, h]

theorem sweep_all {pl : Array Bool} (hc : ∀ (i : Nat) (o : Oper), pre[i]? = some o → pl.getD i false = true → okAt o pl = true) :
    ∀ (i : Nat) (S : List Nat), i ≤ pre.length → sweep pre i S = true → (∀ j ∈ S, pl.getD j false = true) → ∀ j, j < i → pl.getD j false = true
  | 0, _, _, _, _, j, hj => by omega
  | i + 1, S, hi, h, hS, j, hj => by
    simp only [sweep, Bool.and_eq_true] at h
    have hi' : pl.getD i false = true := hS i (by simpa using h.1)
    have ho : pre[i]? = some pre[i] := by simp [show i < pre.length by omega]
    rcases Nat.lt_or_ge j i with hlt | hge
    · refine sweep_all hc i _ (by omega) h.2 (fun k hk => ?_) j hlt
      rcases List.mem_append.1 hk with hk | hk
      · exact hS k hk
      · rw [ho] at hk
        exact okAt_iff.1 (hc i _ ho hi') k (by simpa using hk)
    · obtain rfl : j = i := by omega
      exact hi'

theorem yielded_pre {tmps : Array Value} {j : Nat} (hj : j < pre.length) : yielded (pre ++ [last]).toArray tmps j = yielded pre.toArray tmps j := by
  unfold yielded
  have : (pre ++ [last]).toArray[j]? = pre.toArray[j]? := by simp [List.getElem?_append, hj]
  rw [this]

theorem wanted_pre {o : Oper} {tmps : Array Value} (hg : ∀ j b, o.guard = some (j, b) → j < pre.length) : Region.wanted o (yielded (pre ++ [last]).toArray tmps) = Region.wanted o (yielded pre.toArray tmps) := by
  unfold Region.wanted
  split
  · rfl
  · rename_i j b hgd
    rw [yielded_pre (hg j b hgd)]

theorem getD_set {l : Array Bool} {i j : Nat} {d : Bool} (hi : i < l.size) : (l.setIfInBounds i true).getD j d = if i = j then true else l.getD j d := by
  simp only [Array.getD, Array.size_setIfInBounds]
  by_cases hj : j < l.size
  · simp only [hj, dif_pos]
    by_cases hij : i = j
    · subst hij; simp
    · rw [if_neg hij]; exact Array.getElem_setIfInBounds_ne hj hij
  · have : i ≠ j := by omega
    simp [hj, this]

theorem wpAny_done {ops : Array Oper} {Q' : Exit → Act → World → Prop} {listed : Array Bool} {a : Act} {w : World} (hr : Region.ready .any ops listed = []) (hq : Q' .normal a w) : ∀ f, wpAny P .any ops Q' f listed a w
  | 0 => ⟨hr, hq⟩
  | f + 1 => ⟨fun _ => hq, fun i hi => by rw [hr] at hi; cases hi⟩

theorem wpAny_tail (ht : tailB pre last = true) {Q' : Exit → Act → World → Prop} {Qa : Act → Prop}
    (hlast : ∀ a w, C w → Qa a → ∀ K : Act → World → Prop, (∀ a w, Q' .normal a w → K a w) → wpOp P (pre ++ [last]).toArray Q' pre.length K a w) :
    ∀ (fuel : Nat) (listed pl : Array Bool) (a : Act) (w : World), Tl pre last listed pl → C w → wpAnyQ P .any pre.toArray C Qa fuel pl a → wpAny P .any (pre ++ [last]).toArray Q' (fuel + 1) listed a w := by
  simp only [tailB, Bool.and_eq_true] at ht
  obtain ⟨hback, hsweep⟩ := ht
  have hbackp : backB pre.toArray.toList 0 = true := by
    have key : ∀ (l m : List Oper) (k : Nat), backB (l ++ m) k = true → backB l k = true := by
      intro l m
      induction l with
      | nil => intros; rfl
      | cons x l ih =>
        intro k h
        simp only [List.cons_append, backB, Bool.and_eq_true] at h ⊢
        exact ⟨h.1, ih _ h.2⟩
    simpa using key _ _ _ hback
  have hl : (pre ++ [last])[pre.length]? = some last := by simp
  have hsp := backB_spec hback
  -- the last one is ready exactly if all others are listed
  have lastReady : ∀ listed pl, Tl pre last listed pl → okAt last listed = true → ∀ i, i < pre.length → pl.getD i true = true := by
    intro listed pl hT hok i hi
    have h1 := okAt_iff.1 hok
    have := sweep_all hT.closed pre.length _ (Nat.le_refl _) hsweep (fun j hj => by
      have hlt := (hsp _ _ hl).1 j hj
      rw [← hT.sameF j (by simpa using hlt)]
      exact h1 j hj) i hi
    rw [getD_tf (by rw [hT.s2]; exact hi)]
    exact this
  have lastIs : ∀ listed pl, Tl pre last listed pl → (∀ i, i < pre.length → pl.getD i true = true) → okAt last listed = true := by
    intro listed pl hT hall
    refine okAt_iff.2 fun j hj => ?_
    have hlt : j < pre.length := by simpa using (hsp _ _ hl).1 j hj
    rw [hT.sameF j hlt, ← getD_tf (by rw [hT.s2]; exact hlt)]
    exact hall j hlt
  have okSame : ∀ (listed pl : Array Bool), Tl pre last listed pl → ∀ (i : Nat) (o : Oper), pre[i]? = some o → okAt o listed = okAt o pl := by
    intro listed pl hT i o ho
    have hlt : i < pre.length := by
      rcases Nat.lt_or_ge i pre.length with h | h
      · exact h
      · simp [List.getElem?_eq_none h] at ho
    rw [Bool.eq_iff_iff, okAt_iff, okAt_iff]
    have hd := (hsp i o (by rw [List.getElem?_append_left hlt]; exact ho)).1
    constructor
    · intro h j hj
      have h1 := h j hj
      have h2 := hd j hj
      rw [← hT.sameF j (by omega)]; exact h1
    · intro h j hj
      have h1 := h j hj
      have h2 := hd j hj
      rw [hT.sameF j (by omega)]; exact h1
  have theLast : ∀ fuel listed pl a w, Tl pre last listed pl → C w → (∀ i, i < pre.length → pl.getD i true = true) → Qa a →
      wpOp P (pre ++ [last]).toArray Q' pre.length (wpAny P .any (pre ++ [last]).toArray Q' fuel (listed.setIfInBounds pre.length true)) a w := by
    intro fuel listed pl a w hT hw hall hq
    refine hlast a w hw hq _ fun a' w' hq' => wpAny_done ?_ hq' fuel
    apply List.eq_nil_iff_forall_not_mem.2
    intro i hi
    obtain ⟨o, ho, hl', _⟩ := mem_ready.1 hi
    rw [getD_set (by rw [hT.s1]; omega)] at hl'
    by_cases hin : pre.length = i
    · simp [hin] at hl'
    · rw [if_neg hin] at hl'
      obtain ⟨hlt, _⟩ := Array.getElem?_eq_some_iff.1 ho
      simp at hlt
      have := hall i (by omega)
      rw [← hT.same i (by omega)] at this
      rw [this] at hl'
      cases hl'
  have notEmpty : ∀ listed pl, Tl pre last listed pl → Region.ready .any (pre ++ [last]).toArray listed ≠ [] := by
    intro listed pl hT hr
    have hall := ready_all (by simpa using hT.s1) (by simpa using hback) hr pre.length (by simp)
    rw [hT.lastF] at hall
    cases hall
  intro fuel
  induction fuel with
  | zero =>
    intro listed pl a w hT hw h
    obtain ⟨hr, hq⟩ := h
    have hall : ∀ i, i < pre.length → pl.getD i true = true := fun i hi => ready_all (by simpa using hT.s2) hbackp hr i (by simpa using hi)
    refine ⟨fun h => absurd h (notEmpty listed pl hT), fun i hi => ?_⟩
    obtain ⟨o, ho, hl', hok⟩ := mem_ready.1 hi
    obtain ⟨hlt, _⟩ := Array.getElem?_eq_some_iff.1 ho
    simp at hlt
    rcases Nat.lt_or_ge i pre.length with hi' | hi'
    · have := hall i hi'
      rw [← hT.same i hi', hl'] at this
      cases this
    · obtain rfl : i = pre.length := by omega
      exact theLast 0 listed pl a w hT hw hall hq
  | succ fuel ih =>
    intro listed pl a w hT hw h
    obtain ⟨h0, hstep⟩ := h
    refine ⟨fun h => absurd h (notEmpty listed pl hT), fun i hi => ?_⟩
    obtain ⟨o, ho, hl', hok⟩ := mem_ready.1 hi
    obtain ⟨hlt, _⟩ := Array.getElem?_eq_some_iff.1 ho
    simp at hlt
    rcases Nat.lt_or_ge i pre.length with hi' | hi'
    · have hpo : pre[i]? = some o := by simpa [List.getElem?_append_left hi'] using ho
      have hmem : i ∈ Region.ready .any pre.toArray pl := mem_ready.2 ⟨o, by simpa using hpo, by rw [← hT.same i hi']; exact hl', by rw [← okSame listed pl hT i o hpo]; exact hok⟩
      have hq := hstep i hmem
      unfold qOp at hq
      unfold wpOp
      rw [ho]
      simp only [show pre.toArray[i]? = some o by simpa using hpo] at hq
      have hgd : ∀ j b, o.guard = some (j, b) → j < pre.length := fun j b hgd => by
        have := (hsp i o (by rw [List.getElem?_append_left hi']; exact hpo)).2 j b hgd
        omega
      rw [← wanted_pre (last := last) hgd] at hq
      have hT' : Tl pre last (listed.setIfInBounds i true) (pl.setIfInBounds i true) := by
        have e1 : i < listed.size := by rw [hT.s1]; omega
        have e2 : i < pl.size := by rw [hT.s2]; omega
        refine ⟨by simpa using hT.s1, by simpa using hT.s2, fun j hj => ?_, fun j hj => ?_, ?_, fun j u hu hj => ?_⟩
        · rw [getD_set e1, getD_set e2, hT.same j hj]
        · rw [getD_set e1, getD_set e2, hT.sameF j hj]
        · rw [getD_set e1, if_neg (by omega)]; exact hT.lastF
        · rw [getD_set e2] at hj
          refine okAt_iff.2 fun k hk => ?_
          rw [getD_set e2]
          split
          · rfl
          · by_cases hij : i = j
            · subst hij
              rw [hpo] at hu
              cases hu
              exact okAt_iff.1 ((okSame listed pl hT i o hpo) ▸ hok) k hk
            · rw [if_neg hij] at hj
              exact okAt_iff.1 (hT.closed j u hu hj) k hk
      dsimp only
      split
      · rename_i hw'
        rw [if_pos hw'] at hq
        exact .inl (Oper.wp_of_quiet (C := C) hw (fun a' w' hw'' hk => ih _ _ a' w' hT' hw'' hk) hq)
      · rename_i hw'
        rw [if_neg hw'] at hq
        exact ih _ _ _ w hT' hw hq
    · obtain rfl : i = pre.length := by omega
      have ho' : o = last := by simpa using ho.symm
      subst ho'
      have hall := lastReady listed pl hT hok
      have hr : Region.ready .any pre.toArray pl = [] := by
        apply List.eq_nil_iff_forall_not_mem.2
        intro j hj
        obtain ⟨u, hu, hlu, _⟩ := mem_ready.1 hj
        obtain ⟨hlt', _⟩ := Array.getElem?_eq_some_iff.1 hu
        rw [hall j (by simpa using hlt')] at hlu
        cases hlu
      exact theLast _ listed pl a w hT hw hall (h0 hr)

/-- A region that draws: all but the last operation quiet, the last one behind all of them. -/
theorem wp_region_tail {id : Nat} {Q' : Exit → Act → World → Prop} {a : Act} {w : World} (hm : P.follows .mixedOrders = true) (ht : tailB pre last = true) (hB : Region.lexB .any pre.toArray = true)
    {Qa : Act → Prop} (hC : C { w with drawn := w.drawn + 1 })
    (hlast : ∀ a w, C w → Qa a → ∀ K : Act → World → Prop, (∀ a w, Q' .normal a w → K a w) → wpOp P (pre ++ [last]).toArray Q' pre.length K a w)
    (h : wpQuiet P pre.toArray C Qa pre a) : (Code.region id (pre ++ [last]).toArray true).wp P Q' a w := by
  refine wp_region_any hm ?_
  simp only [Region.lexB, Bool.and_eq_true] at hB
  have hq := wpAnyQ_lex (C := C) (md := .any) hB.1 pre 0 (Array.replicate pre.toArray.size false) a (by simp) (by simpa using hB.2) h
  have := wpAny_tail ht hlast pre.length (Array.replicate (pre.length + 1) false) (Array.replicate pre.length false) a { w with drawn := w.drawn + 1 }
    ⟨by simp, by simp, fun i hi => by simp [Array.getD, hi, show i < pre.length + 1 by omega], fun i hi => by simp [Array.getD, hi, show i < pre.length + 1 by omega], by simp [Array.getD], fun i o hi hf => by
      exfalso
      by_cases hlt : i < pre.length <;> simp [Array.getD, hlt] at hf⟩ hC (by simpa using hq)
  simpa using this
end
end Go.X

/- The symbolic executor: lists of operations, code, functions. -/
namespace Go.X
set_option linter.unusedVariables false
set_option linter.unusedSimpArgs false

class CtxOk (C : Ctx) : Prop where
  tab : TabOk C.P C.tab
  mixed : C.P.follows .mixedOrders = true

/-- One operation. -/
def XOp (C : Ctx) (o : Oper) (e : Env) (L : List Chunk) (K : Value → List Chunk → Prop) : Prop := match isV o.op with
  | true => XV C o e L fun v => K v L
  | false => XE C o e L K

/-- What tests have said. -/
def bget : List (Nat × Bool) → Nat → Option Bool
  | [], _ => none
  | (s, v) :: e, t => match Nat.beq s t with
    | true => some v
    | false => bget e t
/-- A guard: what it says decides, and is then known ('G': the guards that have been asked). -/
def guardX (all : List Oper) (G : List (Nat × Bool)) (o : Oper) (e : Env) (run skip : List (Nat × Bool) → Env → Prop) : Prop := match o.guard with
  | none => run G e
  | some (j, want) => match lget all j with
    | some oj => match oj.dst with
      | some d => match bget G d with
        | some true => match get e d with
          | some (.bool true) => match want with
            | true => run G e
            | false => skip G e
          | _ => False
        | some false => match get e d with
          | some (.bool false) => match want with
            | true => skip G e
            | false => run G e
          | _ => False
        | none => match get e d with
          | some (.bool t) => branch t fun t => match t == want with
            | true => run ((d, t) :: G) ((d, .bool t) :: e)
            | false => skip ((d, t) :: G) ((d, .bool t) :: e)
          | some (.tuple _) => skip G e
          | _ => False
      | none => False
    | none => False

/-- The first slots' facts are among the second's. -/
def Le : Env → Env → Prop
  | [], _ => True
  | (t, v) :: r, e => get e t = some v ∧ Le r e
def At (I : Nat → Env → List Chunk → Prop) (n : Nat) (e : Env) (L : List Chunk) : Prop := ∃ (e' : Env) (L' : List Chunk), Le e' e ∧ Ent L L' ∧ I n e' L'

/-- A loop: an invariant I at a measure; a round goes from n to some m below. -/
@[irreducible] def XLoop (F : Env → List Chunk → (Env → List Chunk → Prop) → Prop) (e : Env) (L : List Chunk) : Prop :=
  ∃ I : Nat → Env → List Chunk → Prop, (∃ n, At I n e L) ∧ ∀ n e L, I n e L → F e L (fun e L => ∃ m, m < n ∧ At I m e L)
/-- Operations, one behind the other. (By the recursor: so the kernel sees the same terms as the elaborator.) -/
def XOps (C : Ctx) (all : List Oper) (K : Env → List Chunk → Prop) (os : List Oper) : List (Nat × Bool) → Env → List Chunk → Prop :=
  List.rec (motive := fun _ => List (Nat × Bool) → Env → List Chunk → Prop) (fun _ e L => K e L)
    (fun o _ ih G e L => guardX all G o e (fun G e => XOp C o e L fun v L' => ih G (put C.n e o.dst v) L') (fun G e => ih G (put C.n e o.dst undef) L)) os

/-- A call that leaves the chunks as they are and whose value is settled. -/
@[irreducible] def CallQ (C : Ctx) (L : List Chunk) (f : FuncId) (args : List Value) (K : Value → Prop) : Prop :=
  ∃ (A B : List Chunk) (v : Value), Ent L (A ++ B) ∧ Ent (A ++ B) L ∧
    (∀ w S, (∀ r, RO C.w0 C.S0 r → RO w S r) → (∀ r ∈ B, RO w S r) → Sep A w S → (∀ b, S b → b < w.heap.size) → Trip C.P f ⟨args⟩ w S fun u L' => u = v ∧ L' = A) ∧ K v
theorem callQ {C : Ctx} {L : List Chunk} {f : FuncId} {args : List Value} {K : Value → Prop} (is : List Nat) {v : Value}
    (hc : ∀ w S, (∀ r, RO C.w0 C.S0 r → RO w S r) → (∀ r ∈ (pick L is).2, RO w S r) → Sep (pick L is).1 w S → (∀ b, S b → b < w.heap.size) → Trip C.P f ⟨args⟩ w S fun u L' => u = v ∧ L' = (pick L is).1)
    (hk : K v) : CallQ C L f args K := by
  unfold CallQ
  exact ⟨_, _, v, .both is, .perm (pick_perm is L).symm, hc, hk⟩

/-- One operation in a region that draws its order. -/
def XQ (C : Ctx) (o : Oper) (e : Env) (L : List Chunk) (K : Value → Prop) : Prop := match isV o.op with
  | true => XV C o e L K
  | false => match o.op with
    | .call { callee := .value f, args := args, .. } => match ev e f with
      | some (.func (.func f) ⟨p⟩ ⟨q⟩) => evs e args.toList fun as => forceL (p ++ as ++ q) fun as => CallQ C L f as K
      | _ => False
    | _ => False
def XQs (C : Ctx) (all : List Oper) (K : Env → List Chunk → Prop) (L : List Chunk) (os : List Oper) : List (Nat × Bool) → Env → Prop :=
  List.rec (motive := fun _ => List (Nat × Bool) → Env → Prop) (fun _ e => K e L)
    (fun o _ ih G e => guardX all G o e (fun G e => XQ C o e L fun v => ih G (put C.n e o.dst v)) (fun G e => ih G (put C.n e o.dst undef))) os
def splitLast : List Oper → Option (List Oper × Oper)
  | [] => none
  | [o] => some ([], o)
  | o :: os => match splitLast os with
    | some (p, l) => some (o :: p, l)
    | none => none
/-- A region that draws, by whatever proof. -/
@[irreducible] def XDrawS (C : Ctx) (ops : List Oper) (e : Env) (L : List Chunk) (K : Env → List Chunk → Prop) : Prop :=
  ∀ (id : Nat) (Q : Exit → Act → World → Prop) (a : Act) (w : World), (∀ e a L w, ES C.n e a → Holds C L w → K e L → Q .normal a w) → ES C.n e a → Holds C L w → (Code.region id ⟨ops⟩ true).wp C.P Q a w
def XDraw (C : Ctx) (ops : List Oper) (e : Env) (L : List Chunk) (K : Env → List Chunk → Prop) : Prop :=
  (Region.lexB .any ⟨ops⟩ = true ∧ XQs C ops K L ops [] e) ∨
  (match splitLast ops with
    | some (pre, last) => (tailB pre last = true ∧ Region.lexB .any ⟨pre⟩ = true ∧ last.guard.isNone = true) ∧ XQs C pre (fun e L => XOp C last e L fun v L' => K (put C.n e last.dst v) L') L pre [] e
    | none => False) ∨
  XDrawS C ops e L K

def XCode (C : Ctx) (c : Code) : Env → List Chunk → (Env → List Chunk → Prop) → (Nat → Env → List Chunk → Prop) → (Env → List Chunk → Prop) → Prop :=
  Code.rec (motive := fun _ => Env → List Chunk → (Env → List Chunk → Prop) → (Nat → Env → List Chunk → Prop) → (Env → List Chunk → Prop) → Prop)
    (fun e L QN _ _ => QN e L)
    (fun _ ops draw e L QN _ _ => match draw with
      | false => XOps C ops.toList QN ops.toList [] e L
      | true => XDraw C ops.toList e L QN)
    (fun _ _ iha ihb e L QN QX QR => iha e L (fun e L => ihb e L QN QX QR) QX QR)
    (fun c _ _ ihx ihy e L QN QX QR => match ev e c with
      | some (.bool t) => branch t fun t => match t with
        | true => ihx e L QN QX QR
        | false => ihy e L QN QX QR
      | _ => False)
    (fun i _ ih e L QN QX QR => ih e L QN (fun j e L => match Nat.beq j i with | true => QN e L | false => QX j e L) QR)
    (fun _ ih e L _ QX QR => XLoop (fun e L Q => ih e L Q QX QR) e L)
    (fun _ _ _ _ _ _ _ _ _ _ _ => False)
    (fun i e L _ QX _ => QX i e L)
    (fun _ _ _ _ _ _ _ => False)
    (fun _ e L QN _ _ => QN e L)
    (fun _ _ _ _ _ _ => False)
    (fun e L _ _ QR => QR e L)
    (fun _ _ _ _ _ _ => False)
    c

/-- The results. -/
def XRes (C : Ctx) (e : Env) (L : List Chunk) (rs : List ResultVar) : (List Value → Prop) → Prop :=
  List.rec (motive := fun _ => (List Value → Prop) → Prop) (fun K => K [])
    (fun r _ ih K => match r with
      | .tmp t => match get e t with
        | some v => ih fun vs => K (v :: vs)
        | none => False
      | .cell a ty => match get e a with
        | some (.pointer (some ad)) => ∃ v, RunsTo C L (loadVar ty ad) v ∧ ih fun vs => K (v :: vs)
        | _ => False) rs
def packV : List Value → Value
  | [v] => v
  | vs => .tuple ⟨vs⟩
def XRet (C : Ctx) (rs : List ResultVar) (Post : Value → List Chunk → Prop) (e : Env) (L : List Chunk) : Prop :=
  XRes C e L rs fun vs => ∃ L', Ent L L' ∧ Post (packV vs) L'

/-! ### soundness -/
section
variable {C : Ctx} {o : Oper} {e : Env} {L : List Chunk} {a : Act}

theorem XOp.sound (hC : CtxOk C) {K : Value → List Chunk → Prop} (ha : ES C.n e a) (h : XOp C o e L K) : EOk C o L K a := by
  unfold XOp at h
  split at h
  · intro next Q hn w hw
    obtain ⟨v, hk, hr⟩ := XV.sound hC.tab ha h
    unfold Oper.wp
    rw [hr w hw]
    exact hn v L w hk hw
  · exact XE.sound hC.tab ha h

theorem guardX.sound {all : List Oper} {G : List (Nat × Bool)} {run skip : List (Nat × Bool) → Env → Prop} (ha : ES C.n e a) (h : guardX all G o e run skip) :
    (Region.wanted o (yielded ⟨all⟩ a.tmps) = true ∧ ∃ G' e', ES C.n e' a ∧ run G' e') ∨ (Region.wanted o (yielded ⟨all⟩ a.tmps) = false ∧ ∃ G' e', ES C.n e' a ∧ skip G' e') := by
  unfold guardX at h
  split at h
  · rename_i hg; exact .inl ⟨by simp [Region.wanted, hg], G, e, ha, h⟩
  · rename_i j want hg
    split at h
    · rename_i oj hj
      split at h
      · rename_i d hd
        have hj' : (⟨all⟩ : Array Oper)[j]? = some oj := by rw [lget_eq] at hj; simpa using hj
        split at h
        · split at h
          · rename_i hget
            have hv := ha.val d _ hget
            have hy : yielded ⟨all⟩ a.tmps j = some true := by simp [yielded, hj', hd, hv]
            cases want
            · exact .inr ⟨by simp [Region.wanted, hg, hy], _, _, ha, h⟩
            · exact .inl ⟨by simp [Region.wanted, hg, hy], _, _, ha, h⟩
          · exact h.elim
        · split at h
          · rename_i hget
            have hv := ha.val d _ hget
            have hy : yielded ⟨all⟩ a.tmps j = some false := by simp [yielded, hj', hd, hv]
            cases want
            · exact .inl ⟨by simp [Region.wanted, hg, hy], _, _, ha, h⟩
            · exact .inr ⟨by simp [Region.wanted, hg, hy], _, _, ha, h⟩
          · exact h.elim
        · split at h
          · rename_i t hget
            have hv := ha.val d _ hget
            have hy : yielded ⟨all⟩ a.tmps j = some t := by simp [yielded, hj', hd, hv]
            have h := h.out
            have he : ES C.n ((d, Value.bool t) :: e) a := ha.of_get fun t' v' h' => by
              simp only [X.get] at h'
              cases hb : Nat.beq d t' with
              | true =>
                have := Nat.eq_of_beq_eq_true hb
                subst this
                simp at h'
                subst h'
                exact hget
              | false => simpa [hb] using h'
            split at h
            · rename_i hw
              refine .inl ⟨?_, _, _, he, h⟩
              simp [Region.wanted, hg, hy]
              simpa using hw
            · rename_i hw
              refine .inr ⟨?_, _, _, he, h⟩
              simp [Region.wanted, hg, hy]
              simpa using hw
          · rename_i vs hget
            have hv := ha.val d _ hget
            have hy : yielded ⟨all⟩ a.tmps j = none := by simp [yielded, hj', hd, hv]
            exact .inr ⟨by simp [Region.wanted, hg, hy], G, e, ha, h⟩
          · exact h.elim
      · exact h.elim
    · exact h.elim

theorem XOps.sound (hC : CtxOk C) {all : List Oper} {Q : Exit → Act → World → Prop} {K : Env → List Chunk → Prop} (hQ : ∀ e a L w, ES C.n e a → Holds C L w → K e L → Q .normal a w) :
    ∀ (os : List Oper) {G : List (Nat × Bool)} {e : Env} {a : Act} {L : List Chunk} {w : World}, ES C.n e a → Holds C L w → XOps C all K os G e L → wpList C.P ⟨all⟩ Q os a w
  | [], G, e, a, L, w, ha, hw, h => hQ e a L w ha hw h
  | o :: os, G, e, a, L, w, ha, hw, h => by
    refine wpList_step fun K' hK' => ?_
    have h : guardX all G o e (fun G e => XOp C o e L fun v L' => XOps C all K os G (put C.n e o.dst v) L') (fun G e => XOps C all K os G (put C.n e o.dst undef) L) := h
    rcases guardX.sound ha h with ⟨hwt, G', e', ha', h'⟩ | ⟨hwt, G', e', ha', h'⟩
    · rw [if_pos hwt]
      exact XOp.sound hC ha' h' K' Q (fun v L' w' hk hh => hK' _ _ (XOps.sound hC hQ os (ha'.put o.dst v) hh hk)) w hw
    · rw [if_neg (by rw [hwt]; exact Bool.false_ne_true)]
      exact hK' _ _ (XOps.sound hC hQ os (ha'.put o.dst undef) hw h')

theorem XQ.sound (hC : CtxOk C) {K : Value → Prop} {next : Act → Prop} (ha : ES C.n e a) (hn : ∀ v, K v → next (a.put o.dst v)) (h : XQ C o e L K) : o.quiet C.P a (Holds C L) next := by
  unfold XQ at h
  split at h
  · obtain ⟨v, hk, hr⟩ := XV.sound hC.tab ha h
    exact ⟨v, fun w hw => by unfold Oper.quietAt; rw [hr w hw]; exact ⟨rfl, rfl⟩, hn v hk⟩
  · split at h
    · rename_i f args ts hop
      split at h
      · rename_i g p q hx
        have h := forceL_out (ha.evals h)
        unfold CallQ at h
        obtain ⟨A, B, v, hE, hE', hc, hk⟩ := h
        refine ⟨v, fun w hw => ?_, hn v hk⟩
        obtain ⟨S1, h1, hd, hro, hrb, hgo⟩ := Inv.handOver (hE _ _ _ hw)
        obtain ⟨⟨fn, hf1, hf2, hf3⟩, hcall⟩ := hc w S1 hro hrb h1 hd
        have hs : execOp a.eval o = callFunc g ⟨p ++ args.toList.map a.eval ++ q⟩ := by
          simp only [execOp, hop, resolve, ha.eval hx, Deferred.ofValue, pure_bind, invoke]
          exact congrArg (callFunc g) (Array.ext' (by simp))
        unfold Oper.quietAt
        rw [hs]
        simp only [callFunc, Sem.run_bind, run_program, Result.andThen_ok, hf1, hf2, hf3, Bool.false_eq_true, if_false]
        refine ⟨rfl, hcall.mono ?_⟩
        rintro _ w' ⟨u, L', rfl, ⟨rfl, rfl⟩, hI⟩
        exact ⟨rfl, hE' _ _ _ (hgo _ w' hI)⟩
      · exact h.elim
    · exact h.elim

theorem XQs.sound (hC : CtxOk C) {all : List Oper} {K : Env → List Chunk → Prop} {Qa : Act → Prop} (hQ : ∀ e a, ES C.n e a → K e L → Qa a) :
    ∀ (os : List Oper) {G : List (Nat × Bool)} {e : Env} {a : Act}, ES C.n e a → XQs C all K L os G e → wpQuiet C.P ⟨all⟩ (Holds C L) Qa os a
  | [], G, e, a, ha, h => hQ e a ha h
  | o :: os, G, e, a, ha, h => by
    refine wpQuiet_step fun K' hK' => ?_
    have h : guardX all G o e (fun G e => XQ C o e L fun v => XQs C all K L os G (put C.n e o.dst v)) (fun G e => XQs C all K L os G (put C.n e o.dst undef)) := h
    rcases guardX.sound ha h with ⟨hwt, G', e', ha', h'⟩ | ⟨hwt, G', e', ha', h'⟩
    · rw [if_pos hwt]
      exact XQ.sound hC ha' (fun v hk => hK' _ (XQs.sound hC hQ os (ha'.put o.dst v) hk)) h'
    · rw [if_neg (by rw [hwt]; exact Bool.false_ne_true)]
      exact hK' _ (XQs.sound hC hQ os (ha'.put o.dst undef) h')

theorem splitLast_eq : ∀ {l : List Oper} {p : List Oper} {x : Oper}, splitLast l = some (p, x) → l = p ++ [x]
  | [], _, _, h => by simp [splitLast] at h
  | [o], p, x, h => by simp [splitLast] at h; obtain ⟨rfl, rfl⟩ := h; rfl
  | o :: o' :: os, p, x, h => by
    simp only [splitLast] at h
    cases hh : splitLast (o' :: os) with
    | none => simp [hh] at h
    | some y =>
      obtain ⟨q, z⟩ := y
      simp [hh] at h
      obtain ⟨rfl, rfl⟩ := h
      rw [splitLast_eq hh]
      rfl

theorem XDraw.sound (hC : CtxOk C) {ops : List Oper} {id : Nat} {Q : Exit → Act → World → Prop} {K : Env → List Chunk → Prop} (hQ : ∀ e a L w, ES C.n e a → Holds C L w → K e L → Q .normal a w)
    {w : World} (ha : ES C.n e a) (hw : Holds C L w) (h : XDraw C ops e L K) : (Code.region id ⟨ops⟩ true).wp C.P Q a w := by
  rcases h with ⟨hB, h⟩ | h | h
  · exact wp_region_quiet (C := Holds C L) hC.mixed hB (Inv.drew hw) (XQs.sound hC (fun e a ha hk w' hw' => hQ e a L w' ha hw' hk) ops ha h)
  · split at h
    · rename_i pre last hs
      obtain rfl := splitLast_eq hs
      obtain ⟨⟨hT, hB, hg⟩, h⟩ := h
      refine wp_region_tail (C := Holds C L) (Qa := fun a => ∃ e, ES C.n e a ∧ XOp C last e L fun v L' => K (put C.n e last.dst v) L') hC.mixed hT hB (Inv.drew hw) ?_ (XQs.sound hC (fun e a ha hk => ⟨e, ha, hk⟩) pre ha h)
      rintro a' w' hw' ⟨e', ha', hx⟩ K' hK'
      unfold wpOp
      rw [show (pre ++ [last]).toArray[pre.length]? = some last by simp]
      have hg' : last.guard = none := by simpa using hg
      simp only [Region.wanted, hg', if_true]
      exact .inl (XOp.sound hC ha' hx K' Q (fun v L' w'' hk hh => hK' _ _ (hQ _ _ L' w'' (ha'.put last.dst v) hh hk)) w' hw')
    · exact h.elim
  · unfold XDrawS at h
    exact h id Q a w hQ ha hw

theorem Le.get : ∀ {e' e : Env}, Le e' e → ∀ t v, X.get e' t = some v → X.get e t = some v
  | [], _, _, _, _, h => by simp [X.get] at h
  | (s, u) :: r, e, ⟨h1, h2⟩, t, v, h => by
    simp only [X.get] at h
    cases hb : Nat.beq s t with
    | true => simp [hb] at h; subst h; rw [← Nat.eq_of_beq_eq_true hb]; exact h1
    | false => simp [hb] at h; exact Le.get h2 t v h

/-- What is to hold behind a piece of code. -/
def QQ (C : Ctx) (QN : Env → List Chunk → Prop) (QX : Nat → Env → List Chunk → Prop) (QR : Env → List Chunk → Prop) : Exit → Act → World → Prop
  | .normal, a, w => ∃ e L, ES C.n e a ∧ Holds C L w ∧ QN e L
  | .exit i, a, w => ∃ e L, ES C.n e a ∧ Holds C L w ∧ QX i e L
  | .ret, a, w => ∃ e L, ES C.n e a ∧ Holds C L w ∧ QR e L
  | _, _, _ => False

theorem XCode.sound (hC : CtxOk C) : ∀ (c : Code) {e : Env} {a : Act} {L : List Chunk} {w : World} {QN : Env → List Chunk → Prop} {QX : Nat → Env → List Chunk → Prop} {QR : Env → List Chunk → Prop},
    ES C.n e a → Holds C L w → XCode C c e L QN QX QR → c.wp C.P (QQ C QN QX QR) a w
  | .skip, e, a, L, w, QN, QX, QR, ha, hw, h => wp_skip ⟨e, L, ha, hw, h⟩
  | .label _, e, a, L, w, QN, QX, QR, ha, hw, h => wp_label ⟨e, L, ha, hw, h⟩
  | .region _ ops false, e, a, L, w, QN, QX, QR, ha, hw, h => wp_region_list (XOps.sound hC (fun e a L w ha hw hk => ⟨e, L, ha, hw, hk⟩) ops.toList ha hw h)
  | .region _ ops true, e, a, L, w, QN, QX, QR, ha, hw, h => XDraw.sound hC (fun e a L w ha hw hk => ⟨e, L, ha, hw, hk⟩) ha hw h
  | .seq x y, e, a, L, w, QN, QX, QR, ha, hw, h => by
    refine wp_seq (wp_mono (XCode.sound hC x ha hw h) ?_)
    intro ex a' w' hq
    cases ex with
    | normal => obtain ⟨e', L', ha', hw', hk⟩ := hq; exact XCode.sound hC y ha' hw' hk
    | exit i => exact hq
    | goto l => exact hq.elim
    | ret => exact hq
    | panic ch => exact hq.elim
    | outgrown => exact hq.elim
  | .cond c x y, e, a, L, w, QN, QX, QR, ha, hw, h => by
    have h : (match ev e c with | some (.bool t) => branch t fun t => (match t with | true => XCode C x e L QN QX QR | false => XCode C y e L QN QX QR) | _ => False) := h
    split at h
    · rename_i t hc
      have h := h.out
      refine wp_cond (ha.eval hc) ?_
      cases t with
      | true => exact XCode.sound hC x ha hw h
      | false => exact XCode.sound hC y ha hw h
    · exact h.elim
  | .block i c, e, a, L, w, QN, QX, QR, ha, hw, h => by
    refine wp_block (wp_mono (XCode.sound hC c ha hw h) ?_)
    intro ex a' w' hq
    cases ex with
    | normal => exact hq
    | exit j =>
      obtain ⟨e', L', ha', hw', hk⟩ := hq
      simp only [Exit.inBlock]
      cases hb : Nat.beq j i with
      | true => rw [if_pos (Nat.eq_of_beq_eq_true hb)]; rw [hb] at hk; exact ⟨e', L', ha', hw', hk⟩
      | false =>
        rw [if_neg (fun he => by subst he; simp at hb)]
        rw [hb] at hk
        exact ⟨e', L', ha', hw', hk⟩
    | goto l => exact hq.elim
    | ret => exact hq
    | panic ch => exact hq.elim
    | outgrown => exact hq.elim
  | .loop c, e, a, L, w, QN, QX, QR, ha, hw, h => by
    have h : XLoop (fun e L Q => XCode C c e L Q QX QR) e L := h
    unfold XLoop at h
    obtain ⟨I, ⟨n, e', L', hle, hE, hI⟩, hround⟩ := h
    let J : Nat → Act → World → Prop := fun n a w => ∃ e L, ES C.n e a ∧ Holds C L w ∧ I n e L
    have hat : ∀ n e L a w, ES C.n e a → Holds C L w → At I n e L → J n a w := fun n e L a w ha hw ⟨e', L', hle, hE, hI⟩ => ⟨e', _, ha.of_get hle.get, hE _ _ _ hw, hI⟩
    classical
    have hmin : ∀ a w, (∃ n, J n a w) → ∃ n, J n a w ∧ ∀ m, m < n → ¬ J m a w := by
      intro a w ⟨n, hn⟩
      induction n using Nat.strongRecOn with
      | _ n ih =>
        by_cases hm : ∃ m, m < n ∧ J m a w
        · obtain ⟨m, hlt, hm⟩ := hm
          exact ih m hlt hm
        · exact ⟨n, hn, fun m hlt hj => hm ⟨m, hlt, hj⟩⟩
    let μ : Act → World → Nat := fun a w => if h : ∃ n, J n a w then Classical.choose (hmin a w h) else 0
    have hμ : ∀ a w (h : ∃ n, J n a w), J (μ a w) a w ∧ ∀ m, m < μ a w → ¬ J m a w := fun a w h => by
      simp only [μ, dif_pos h]
      exact Classical.choose_spec (hmin a w h)
    refine wp_loop (fun a w => ∃ n, J n a w) μ ⟨n, hat n e L a w ha hw ⟨e', L', hle, hE, hI⟩⟩ fun a w hj => ?_
    obtain ⟨⟨e1, L1, ha1, hw1, hI1⟩, _⟩ := hμ a w hj
    refine wp_mono (XCode.sound hC c ha1 hw1 (hround _ e1 L1 hI1)) ?_
    intro ex a' w' hq
    cases ex with
    | normal =>
      obtain ⟨e2, L2, ha2, hw2, m, hlt, hm⟩ := hq
      have hjm := hat m e2 L2 a' w' ha2 hw2 hm
      refine ⟨⟨m, hjm⟩, ?_⟩
      have h2 := hμ a' w' ⟨m, hjm⟩
      rcases Nat.lt_or_ge m (μ a' w') with h3 | h3
      · exact absurd hjm (h2.2 m h3)
      · omega
    | exit i => exact hq
    | goto l => exact hq.elim
    | ret => exact hq
    | panic ch => exact hq.elim
    | outgrown => exact hq.elim
  | .exit i, e, a, L, w, QN, QX, QR, ha, hw, h => wp_exit ⟨e, L, ha, hw, h⟩
  | .ret, e, a, L, w, QN, QX, QR, ha, hw, h => wp_ret ⟨e, L, ha, hw, h⟩
  | .rangeFunc _ _ _ _, _, _, _, _, _, _, _, _, _, h => False.elim h
  | .scope _, _, _, _, _, _, _, _, _, _, h => False.elim h
  | .goto _, _, _, _, _, _, _, _, _, _, h => False.elim h
  | .refuse _, _, _, _, _, _, _, _, _, _, h => False.elim h

def resF (tmps : Array Value) : ResultVar → Sem Value
  | .tmp t => Pure.pure (tmps.getD t undef)
  | .cell a t => do loadVar t (← asAddr (tmps.getD a undef))
theorem results_eq (fn : Func) (tmps : Array Value) : results fn tmps = (do let vs ← fn.results.mapM (resF tmps); Pure.pure (if h : vs.size = 1 then vs[0] else .tuple vs)) := by
  have key : ∀ g : ResultVar → Sem Value, (∀ r, g r = resF tmps r) → fn.results.mapM g = fn.results.mapM (resF tmps) := fun g hg => by rw [show g = resF tmps from funext hg]
  unfold results
  rw [key]
  intro r
  cases r <;> rfl

theorem XRes.sound : ∀ {rs : List ResultVar} {K : List Value → Prop} {w : World}, ES C.n e a → Holds C L w → XRes C e L rs K →
    ∃ vs, K vs ∧ (rs.mapM (resF a.tmps)).run C.P w = .ok vs w
  | [], K, w, ha, hw, h => ⟨[], h, rfl⟩
  | .tmp t :: rs, K, w, ha, hw, h => by
    have h : (match get e t with | some v => XRes C e L rs fun vs => K (v :: vs) | none => False) := h
    split at h
    · rename_i v hv
      obtain ⟨vs, hk, hr⟩ := XRes.sound ha hw h
      refine ⟨v :: vs, hk, ?_⟩
      have : a.tmps.getD t undef = v := ha.eval (x := .tmp t) hv
      simp only [List.mapM_cons, resF, this, Sem.run_bind, Sem.run_pure, Result.andThen_ok, hr]
    · exact h.elim
  | .cell p ty :: rs, K, w, ha, hw, h => by
    have h : (match get e p with | some (.pointer (some ad)) => ∃ v, RunsTo C L (loadVar ty ad) v ∧ XRes C e L rs fun vs => K (v :: vs) | _ => False) := h
    split at h
    · rename_i ad hv
      obtain ⟨v, hl, h⟩ := h
      obtain ⟨vs, hk, hr⟩ := XRes.sound ha hw h
      refine ⟨v :: vs, hk, ?_⟩
      have : a.tmps.getD p undef = .pointer (some ad) := ha.eval (x := .tmp p) hv
      simp only [List.mapM_cons, resF, this, asAddr, Sem.run_bind, Sem.run_pure, Result.andThen_ok, hl w hw, hr]
    · exact h.elim

end

def bodyOf (fn : Func) : Code := fn.body.getD .skip
def argEnv : Nat → List Value → Env
  | _, [] => []
  | k, v :: vs => (k, v) :: argEnv (k + 1) vs

theorem argEnv_get : ∀ {vs : List Value} {k t : Nat} {v : Value}, get (argEnv k vs) t = some v → k ≤ t ∧ vs[t - k]? = some v
  | [], _, _, _, h => by simp [argEnv, get] at h
  | u :: vs, k, t, v, h => by
    simp only [argEnv, get] at h
    cases hb : Nat.beq k t with
    | true => have := Nat.eq_of_beq_eq_true hb; subst this; simp at h; subst h; exact ⟨Nat.le_refl _, by simp⟩
    | false =>
      simp [hb] at h
      obtain ⟨h1, h2⟩ := argEnv_get h
      refine ⟨by omega, ?_⟩
      have : t - k = (t - (k + 1)) + 1 := by omega
      rw [this]
      simpa using h2

/-- A FUNCTION, BY ITS CODE. -/
theorem Trip.of_x {P : Program} {f : FuncId} {fn : Func} {tab : Tab} {n : Nat} {args : List Value} {w : World} {S : FP} {L : List Chunk} {rs : List ResultVar} {Post : Value → List Chunk → Prop}
    (hf : P.funcs[f]? = some fn) (hname : (fn.name == "runtime.NumGoroutine") = false) (hb : fn.body.isNone = false) (hn : fn.ntmps = n) (hr : fn.results = rs.toArray) (hlen : Nat.ble args.length n = true)
    (hC : ∀ w S, CtxOk ⟨P, tab, n, w, S⟩) (hS : Sep L w S) (hd : ∀ b, S b → b < w.heap.size)
    (h : XCode ⟨P, tab, n, w, S⟩ (bodyOf fn) (argEnv 0 args) L (XRet ⟨P, tab, n, w, S⟩ rs Post) (fun _ _ _ => False) (XRet ⟨P, tab, n, w, S⟩ rs Post)) : Trip P f ⟨args⟩ w S Post := by
  refine ⟨⟨fn, hf, hname, hb⟩, ?_⟩
  obtain ⟨c, hc⟩ : ∃ c, fn.body = some c := by cases hx : fn.body with | none => simp [hx] at hb | some c => exact ⟨c, rfl⟩
  have hbo : bodyOf fn = c := by simp [bodyOf, hc]
  rw [hbo] at h
  refine calls_of_wp hf hc ?_
  have hlen' : args.length ≤ n := by simpa using hlen
  have ha : ES n (argEnv 0 args) { tmps := ⟨args⟩ ++ Array.replicate (fn.ntmps - (⟨args⟩ : Array Value).size) undef, defers := [] } := by
    refine ⟨by simp [hn]; omega, fun t v hv => ?_, rfl⟩
    obtain ⟨_, h2⟩ := argEnv_get hv
    simp at h2
    have hlt : t < args.length := by
      rcases Nat.lt_or_ge t args.length with h | h
      · exact h
      · simp [List.getElem?_eq_none h] at h2
    rw [Array.getElem?_append_left (by simpa using hlt)]
    simpa using h2
  have hret : ∀ e L a w', ES n e a → Holds ⟨P, tab, n, w, S⟩ L w' → XRet ⟨P, tab, n, w, S⟩ rs Post e L →
      a.defers = [] ∧ ∃ v, (results fn a.tmps).run P w' = .ok v w' ∧ ∃ v' L', Ending.returned v = .returned v' ∧ Post v' L' ∧ Inv w S L' w' := by
    intro e L a w' ha' hw' hx
    refine ⟨ha'.defers, ?_⟩
    obtain ⟨vs, ⟨L2, hE, hp⟩, hrun⟩ := XRes.sound (C := ⟨P, tab, n, w, S⟩) ha' hw' hx
    refine ⟨packV vs, ?_, packV vs, _, rfl, hp, hE _ _ _ hw'⟩
    rw [results_eq, hr, Array.mapM_eq_mapM_toList]
    simp only [Sem.run_bind, Sem.run_map]
    have hrun' : (rs.toArray.toList.mapM (resF a.tmps)).run P w' = .ok vs w' := by simpa using hrun
    rw [hrun']
    simp only [Result.andThen_ok, Sem.run_pure]
    congr 1
    cases vs with
    | nil => rfl
    | cons v vs => cases vs <;> rfl
  refine wp_mono (XCode.sound (hC w S) c ha (Inv.start hS hd) h) ?_
  intro ex a' w' hq
  cases ex with
  | normal => obtain ⟨e', L', ha', hw', hk⟩ := hq; exact hret _ _ _ _ ha' hw' hk
  | exit i => obtain ⟨e', L', _, _, hk⟩ := hq; exact hk.elim
  | goto l => exact hq.elim
  | ret => obtain ⟨e', L', ha', hw', hk⟩ := hq; exact hret _ _ _ _ ha' hw' hk
  | panic ch => exact hq.elim
  | outgrown => exact hq.elim

end Go.X
