/- The heart of the symbolic executor: chunks of memory with footprints, lists of them, and contracts of functions. No program is in sight. -/
import Derived.WalkKit
import Derived.Deep.Quiet
import Derived.KernelRfl
namespace Go.X

/-- A set of blocks. -/
abbrev FP := Nat → Prop

/-- An assertion on memory, with the blocks that it speaks of. -/
structure Chunk where
  sat : World → FP → Prop
  stab : ∀ {w w' : World} {S : FP}, sat w S → (∀ b, S b → w'.heap[b]? = w.heap[b]?) → sat w' S
  dom : ∀ {w : World} {S : FP} {b : Nat}, sat w S → S b → b < w.heap.size

/-- The chunks hold, apart from one another, within the blocks of S. -/
def Sep : List Chunk → World → FP → Prop
  | [], _, _ => True
  | c :: L, w, S => ∃ S1 S2, c.sat w S1 ∧ Sep L w S2 ∧ (∀ b, S1 b → ¬ S2 b) ∧ (∀ b, S1 b → S b) ∧ (∀ b, S2 b → S b)

theorem Sep.mono {w : World} : ∀ {L : List Chunk} {S S' : FP}, Sep L w S → (∀ b, S b → S' b) → Sep L w S'
  | [], _, _, _, _ => trivial
  | _ :: _, _, _, ⟨S1, S2, h1, h2, hd, hs1, hs2⟩, h => ⟨S1, S2, h1, h2, hd, fun b hb => h b (hs1 b hb), fun b hb => h b (hs2 b hb)⟩

theorem Sep.stab {w w' : World} : ∀ {L : List Chunk} {S : FP}, Sep L w S → (∀ b, S b → w'.heap[b]? = w.heap[b]?) → Sep L w' S
  | [], _, _, _ => trivial
  | c :: _, _, ⟨S1, S2, h1, h2, hd, hs1, hs2⟩, h => ⟨S1, S2, c.stab h1 (fun b hb => h b (hs1 b hb)), Sep.stab h2 (fun b hb => h b (hs2 b hb)), hd, hs1, hs2⟩

theorem Sep.split {w : World} : ∀ {L M : List Chunk} {S : FP}, Sep (L ++ M) w S → ∃ S1 S2, Sep L w S1 ∧ Sep M w S2 ∧ (∀ b, S1 b → ¬ S2 b) ∧ (∀ b, S1 b → S b) ∧ (∀ b, S2 b → S b)
  | [], _, S, h => ⟨fun _ => False, S, trivial, h, fun _ hb => hb.elim, fun _ hb => hb.elim, fun _ hb => hb⟩
  | c :: L, M, S, ⟨S1, S2, h1, h2, hd, hs1, hs2⟩ => by
    obtain ⟨T1, T2, k1, k2, kd, kt1, kt2⟩ := Sep.split h2
    exact ⟨fun b => S1 b ∨ T1 b, T2, ⟨S1, T1, h1, k1, fun b hb hb' => hd b hb (kt1 b hb'), fun b hb => .inl hb, fun b hb => .inr hb⟩, k2,
      fun b hb hb' => hb.elim (fun h => hd b h (kt2 b hb')) (fun h => kd b h hb'), fun b hb => hb.elim (hs1 b) (fun h => hs2 b (kt1 b h)), fun b hb => hs2 b (kt2 b hb)⟩

theorem Sep.join {w : World} : ∀ {L M : List Chunk} {S S1 S2 : FP}, Sep L w S1 → Sep M w S2 → (∀ b, S1 b → ¬ S2 b) → (∀ b, S1 b → S b) → (∀ b, S2 b → S b) → Sep (L ++ M) w S
  | [], _, _, _, _, _, h2, _, _, hs2 => h2.mono hs2
  | _ :: _, _, _, _, S2, ⟨T1, T2, k1, k2, kd, kt1, kt2⟩, h2, hd, hs1, hs2 =>
    ⟨T1, fun b => T2 b ∨ S2 b, k1, Sep.join k2 h2 (fun b hb => hd b (kt2 b hb)) (fun _ hb => .inl hb) (fun _ hb => .inr hb),
      fun b hb hb' => hb'.elim (kd b hb) (hd b (kt1 b hb)), fun b hb => hs1 b (kt1 b hb), fun b hb => hb.elim (fun h => hs1 b (kt2 b h)) (hs2 b)⟩

theorem Sep.perm {w : World} {L M : List Chunk} (hp : L.Perm M) : ∀ {S : FP}, Sep L w S → Sep M w S := by
  induction hp with
  | nil => exact fun h => h
  | cons c _ ih => rintro S ⟨S1, S2, h1, h2, hd, hs1, hs2⟩; exact ⟨S1, S2, h1, ih h2, hd, hs1, hs2⟩
  | swap c d L =>
    rintro S ⟨S1, S2, h1, ⟨T1, T2, k1, k2, kd, kt1, kt2⟩, hd, hs1, hs2⟩
    exact ⟨T1, fun b => S1 b ∨ T2 b, k1, ⟨S1, T2, h1, k2, fun b hb hb' => hd b hb (kt2 b hb'), fun _ hb => .inl hb, fun _ hb => .inr hb⟩,
      fun b hb hb' => hb'.elim (fun h => hd b h (kt1 b hb)) (kd b hb), fun b hb => hs2 b (kt1 b hb), fun b hb => hb.elim (hs1 b) (fun h => hs2 b (kt2 b h))⟩
  | trans _ _ ih1 ih2 => exact fun h => ih2 (ih1 h)

/-! ### choosing chunks by their numbers -/
def takeAt : List Chunk → Nat → Option (Chunk × List Chunk)
  | [], _ => none
  | c :: L, 0 => some (c, L)
  | c :: L, i + 1 => match takeAt L i with
    | some (d, M) => some (d, c :: M)
    | none => none

theorem takeAt_perm : ∀ {L : List Chunk} {i : Nat} {c : Chunk} {M : List Chunk}, takeAt L i = some (c, M) → L.Perm (c :: M)
  | [], _, _, _, h => by simp [takeAt] at h
  | d :: L, 0, c, M, h => by simp [takeAt] at h; obtain ⟨rfl, rfl⟩ := h; exact .refl _
  | d :: L, i + 1, c, M, h => by
    simp only [takeAt] at h
    cases hh : takeAt L i with
    | none => simp [hh] at h
    | some x =>
      obtain ⟨u, N⟩ := x
      simp [hh] at h
      obtain ⟨rfl, rfl⟩ := h
      exact (List.Perm.cons d (takeAt_perm hh)).trans (.swap _ _ _)

/-- The chunks with these numbers (each counted in what is left when it is taken), and the others. -/
def pick : List Chunk → List Nat → List Chunk × List Chunk
  | L, [] => ([], L)
  | L, i :: is => match takeAt L i with
    | some (c, M) => (c :: (pick M is).1, (pick M is).2)
    | none => pick L is

theorem pick_perm : ∀ (is : List Nat) (L : List Chunk), L.Perm ((pick L is).1 ++ (pick L is).2)
  | [], L => by simp [pick]
  | i :: is, L => by
    simp only [pick]
    cases hh : takeAt L i with
    | none => simpa using pick_perm is L
    | some x =>
      obtain ⟨c, M⟩ := x
      simpa using (takeAt_perm hh).trans (List.Perm.cons c (pick_perm is M))

/-! ### what a call may have done -/
/-- From w0 to w: of what was there only the blocks of S0 may have turned. -/
structure Fr (w0 : World) (S0 : FP) (w : World) : Prop where
  os : w.os = w0.os
  tape : w.tape = w0.tape
  output : w.output = w0.output
  size : w0.heap.size ≤ w.heap.size
  blk : ∀ b, b < w0.heap.size → ¬ S0 b → w.heap[b]? = w0.heap[b]?

theorem Fr.refl (w : World) (S : FP) : Fr w S w := ⟨rfl, rfl, rfl, Nat.le_refl _, fun _ _ _ => rfl⟩

theorem Fr.below {w0 w : World} (h : Fr w0 (fun _ => False) w) : RowKit.Below w0.heap.size w0 w := ⟨h.os, h.tape, h.output, h.size, fun b hb => h.blk b hb id⟩

/-- The state between two operations: the frame, and the chunks. -/
def Inv (w0 : World) (S0 : FP) (L : List Chunk) (w : World) : Prop :=
  Fr w0 S0 w ∧ ∃ S, Sep L w S ∧ ∀ b, S b → b < w.heap.size ∧ (S0 b ∨ w0.heap.size ≤ b)

/-- A chunk that nobody writes to while the blocks of S may turn. -/
def RO (w : World) (S : FP) (c : Chunk) : Prop := ∃ T, c.sat w T ∧ ∀ b, T b → ¬ S b

theorem Inv.perm {w0 w : World} {S0 : FP} {L M : List Chunk} (hp : L.Perm M) (h : Inv w0 S0 L w) : Inv w0 S0 M w :=
  ⟨h.1, let ⟨S, hS, hb⟩ := h.2; ⟨S, hS.perm hp, hb⟩⟩

theorem Inv.pick {w0 w : World} {S0 : FP} {L : List Chunk} (is : List Nat) (h : Inv w0 S0 L w) : Inv w0 S0 (X.pick L is).1 w := by
  obtain ⟨hf, S, hS, hb⟩ := h
  obtain ⟨S1, S2, h1, _, _, hs1, _⟩ := (hS.perm (pick_perm is L)).split
  exact ⟨hf, S1, h1, fun b hb' => hb b (hs1 b hb')⟩

theorem Inv.start {w : World} {S : FP} {L : List Chunk} (h : Sep L w S) (hd : ∀ b, S b → b < w.heap.size) : Inv w S L w :=
  ⟨.refl _ _, S, h, fun b hb => ⟨hd b hb, .inl hb⟩⟩

/-- What was read-only stays what it is. -/
theorem RO.now {w0 w : World} {S0 : FP} {c : Chunk} (h : RO w0 S0 c) (hf : Fr w0 S0 w) : ∃ T, c.sat w T ∧ ∀ b, T b → b < w0.heap.size ∧ ¬ S0 b := by
  obtain ⟨T, hT, hd⟩ := h
  exact ⟨T, c.stab hT fun b hb => hf.blk b (c.dom hT hb) (hd b hb), fun b hb => ⟨c.dom hT hb, hd b hb⟩⟩

/-- A new block joins the chunks. -/
theorem Inv.alloc {w0 w : World} {S0 : FP} {L : List Chunk} (h : Inv w0 S0 L w) (o : Obj) {c : Chunk} (hc : c.sat (w.alloc o) (fun b => b = w.heap.size)) : Inv w0 S0 (c :: L) (w.alloc o) := by
  obtain ⟨hf, S, hS, hb⟩ := h
  have old : ∀ b, b < w.heap.size → (w.alloc o).heap[b]? = w.heap[b]? := fun b hlt => RowKit.Below.heap_alloc w o b hlt
  have hsz := hf.size
  refine ⟨⟨hf.os, hf.tape, hf.output, by simp; omega, fun b hb0 hn => (old b (by omega)).trans (hf.blk b hb0 hn)⟩, fun b => b = w.heap.size ∨ S b, ?_, ?_⟩
  · exact ⟨_, S, hc, hS.stab fun b hb' => old b (hb b hb').1, fun b e hb' => by have := (hb b hb').1; omega, fun b hb' => .inl hb', fun b hb' => .inr hb'⟩
  · rintro b (rfl | hb')
    · exact ⟨by simp, .inr hsz⟩
    · exact ⟨by have := (hb b hb').1; simp; omega, (hb b hb').2⟩

/-- A draw turns nothing. -/
theorem Inv.drew {w0 w : World} {S0 : FP} {L : List Chunk} (h : Inv w0 S0 L w) : Inv w0 S0 L w.drew :=
  let ⟨hf, S, hS, hb⟩ := h; ⟨⟨hf.os, hf.tape, hf.output, hf.size, hf.blk⟩, S, hS.stab fun _ _ => rfl, hb⟩

/-- Some chunks are handed over: what the callee may count on, and what its work gives. -/
theorem Inv.handOver {w0 w : World} {S0 : FP} {A B : List Chunk} (h : Inv w0 S0 (A ++ B) w) :
    ∃ S1, Sep A w S1 ∧ (∀ b, S1 b → b < w.heap.size) ∧ (∀ r, RO w0 S0 r → RO w S1 r) ∧ (∀ r ∈ B, RO w S1 r) ∧ ∀ M w', Inv w S1 M w' → Inv w0 S0 (M ++ B) w' := by
  obtain ⟨hf, S, hS, hb⟩ := h
  obtain ⟨S1, S2, h1, h2, hd, hs1, hs2⟩ := hS.split
  refine ⟨S1, h1, fun b hb' => (hb b (hs1 b hb')).1, fun r hr => ?_, ?_, ?_⟩
  · obtain ⟨T, hT, hk⟩ := hr.now hf
    refine ⟨T, hT, fun b hb' hb1 => ?_⟩
    rcases (hb b (hs1 b hb1)).2 with h' | h'
    · exact (hk b hb').2 h'
    · have := (hk b hb').1; omega
  · clear hs2 hb
    intro r hr
    revert h2 hd
    clear h1 hs1 hS hf
    induction B generalizing S2 with
    | nil => cases hr
    | cons c B ih =>
      rintro ⟨T1, T2, k1, k2, kd, kt1, kt2⟩ hd
      rcases List.mem_cons.1 hr with rfl | hr
      · exact ⟨T1, k1, fun b hb' hb1 => hd b hb1 (kt1 b hb')⟩
      · exact ih T2 hr k2 fun b hb1 hb2 => hd b hb1 (kt2 b hb2)
  · rintro M w' ⟨kf, T, hT, kb⟩
    have s1 := hf.size
    have s2 := kf.size
    refine ⟨⟨kf.os.trans hf.os, kf.tape.trans hf.tape, kf.output.trans hf.output, by omega, fun b hb0 hn => ?_⟩, fun b => T b ∨ S2 b, ?_, ?_⟩
    · refine (kf.blk b (by omega) fun h => ?_).trans (hf.blk b hb0 hn)
      rcases (hb b (hs1 b h)).2 with h' | h'
      · exact hn h'
      · omega
    · refine Sep.join hT (h2.stab fun b hb' => kf.blk b (hb b (hs2 b hb')).1 fun h => hd b h hb') (fun b hb' hb2 => ?_) (fun _ hb' => .inl hb') (fun _ hb' => .inr hb')
      rcases (kb b hb').2 with h' | h'
      · exact hd b h' hb2
      · have := (hb b (hs2 b hb2)).1; omega
    · rintro b (hb' | hb')
      · refine ⟨(kb b hb').1, ?_⟩
        rcases (kb b hb').2 with h' | h'
        · exact (hb b (hs1 b h')).2
        · exact .inr (by omega)
      · exact ⟨by have := (hb b (hs2 b hb')).1; omega, (hb b (hs2 b hb')).2⟩

/-- The first chunk turns into others, within its own blocks and new ones. -/
theorem Inv.turn {w0 w w' : World} {S0 : FP} {c : Chunk} {M L : List Chunk} (h : Inv w0 S0 (c :: L) w)
    (hc : ∀ S1, c.sat w S1 → (∀ b, S1 b → b < w.heap.size) → Inv w S1 M w') : Inv w0 S0 (M ++ L) w' := by
  obtain ⟨S1, hA, hd, _, _, hk⟩ := Inv.handOver (A := [c]) (B := L) h
  obtain ⟨T1, T2, h1, _, _, ht1, _⟩ := hA
  obtain ⟨kf, T, hT, kb⟩ := hc T1 h1 fun b hb => hd b (ht1 b hb)
  exact hk M w' ⟨⟨kf.os, kf.tape, kf.output, kf.size, fun b hb hn => kf.blk b hb fun h => hn (ht1 b h)⟩, T, hT, fun b hb => ⟨(kb b hb).1, (kb b hb).2.imp_left (ht1 b)⟩⟩

/-! ### one list of chunks gives another one -/
def Ent (L M : List Chunk) : Prop := ∀ w0 S0 w, Inv w0 S0 L w → Inv w0 S0 M w
theorem Ent.refl (L : List Chunk) : Ent L L := fun _ _ _ h => h
theorem Ent.trans {L M N : List Chunk} (h : Ent L M) (k : Ent M N) : Ent L N := fun w0 S0 w x => k w0 S0 w (h w0 S0 w x)
theorem Ent.perm {L M : List Chunk} (h : L.Perm M) : Ent L M := fun _ _ _ x => x.perm h
theorem Ent.pick {L : List Chunk} (is : List Nat) : Ent L (X.pick L is).1 := fun _ _ _ x => x.pick is
theorem Ent.both {L : List Chunk} (is : List Nat) : Ent L ((X.pick L is).1 ++ (X.pick L is).2) := .perm (pick_perm is L)
/-- The first chunk is seen as another one. -/
theorem Ent.conv {c d : Chunk} {L : List Chunk} (h : ∀ w T, c.sat w T → ∃ T', d.sat w T' ∧ ∀ b, T' b → T b) : Ent (c :: L) (d :: L) := by
  rintro w0 S0 w ⟨hf, S, ⟨S1, S2, h1, h2, hd, hs1, hs2⟩, hb⟩
  obtain ⟨T', k1, k2⟩ := h w S1 h1
  exact ⟨hf, S, ⟨T', S2, k1, h2, fun b hb' => hd b (k2 b hb'), fun b hb' => hs1 b (k2 b hb'), hs2⟩, hb⟩
/-- A chunk that holds everywhere, of no block. -/
theorem Ent.free {c : Chunk} {L : List Chunk} (h : ∀ w, c.sat w fun _ => False) : Ent L (c :: L) := by
  rintro w0 S0 w ⟨hf, S, hS, hb⟩
  exact ⟨hf, S, ⟨fun _ => False, S, h w, hS, fun _ h => h.elim, fun _ h => h.elim, fun _ h => h⟩, hb⟩
theorem Ent.cons {c : Chunk} {L M : List Chunk} (h : ∀ w S, Sep L w S → Sep M w S) : Ent (c :: L) (c :: M) := by
  rintro w0 S0 w ⟨hf, S, ⟨S1, S2, h1, h2, hd, hs1, hs2⟩, hb⟩
  exact ⟨hf, S, ⟨S1, S2, h1, h w S2 h2, hd, hs1, hs2⟩, hb⟩

/-! ### contracts -/
/-- The function is one with a body (and not the one that the model keeps for itself). -/
def FnOk (P : Program) (f : FuncId) : Prop := ∃ fn, P.funcs[f]? = some fn ∧ (fn.name == "runtime.NumGoroutine") = false ∧ fn.body.isNone = false

/-- Called in w, where the chunks of the call lie in S, f returns a value and chunks of which Post holds. -/
def Trip (P : Program) (f : FuncId) (args : Array Value) (w : World) (S : FP) (Post : Value → List Chunk → Prop) : Prop :=
  FnOk P f ∧ Calls P f args w fun e w' => ∃ v L, e = .returned v ∧ Post v L ∧ Inv w S L w'

theorem Trip.mono {P : Program} {f : FuncId} {args : Array Value} {w : World} {S : FP} {Post Post' : Value → List Chunk → Prop} (h : Trip P f args w S Post)
    (hp : ∀ v L, Post v L → Post' v L) : Trip P f args w S Post' :=
  ⟨h.1, h.2.mono fun _ _ ⟨v, L, he, hP, hI⟩ => ⟨v, L, he, hp _ _ hP, hI⟩⟩

end Go.X
