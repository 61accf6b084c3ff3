/- Rules for memory: blocks known whole, read-only slices. -/
import Derived.Test.YtkkeimpmafllpaaGreatDoorXA
import Derived.MapKept
import Derived.Laws.StructEq
import Derived.DeepKeys3
import Derived.Deep.AppendLies
import Derived.Lib.AppendStr
import Derived.Lib.Builder
import Derived.Lib.UnsafeStr
namespace Go.X
set_option linter.unusedVariables false
set_option linter.unusedSimpArgs false

theorem Sep.mem {w : World} : ∀ {L : List Chunk} {S : FP} {c : Chunk}, Sep L w S → c ∈ L → ∃ T, c.sat w T ∧ ∀ b, T b → S b
  | d :: L, S, c, ⟨S1, S2, h1, h2, hd, hs1, hs2⟩, hm => by
    rcases List.mem_cons.1 hm with rfl | hm
    · exact ⟨S1, h1, hs1⟩
    · obtain ⟨T, hT, hb⟩ := Sep.mem h2 hm; exact ⟨T, hT, fun b hb' => hs2 b (hb b hb')⟩
theorem lget_mem {α : Type} {l : List α} {i : Nat} {a : α} (h : lget l i = some a) : a ∈ l := by rw [lget_eq] at h; exact List.mem_of_getElem? h
theorem Holds.mem {C : Ctx} {L : List Chunk} {w : World} {i : Nat} {c : Chunk} (h : Holds C L w) (hi : lget L i = some c) : ∃ T, c.sat w T :=
  let ⟨_, S, hS, _⟩ := h; let ⟨T, hT, _⟩ := hS.mem (lget_mem hi); ⟨T, hT⟩

theorem cell_of_block {w : World} {b : Nat} {cs : List Value} {ty : TypeId} (h : w.heap[b]? = some (.cells cs.toArray ty (0, 0))) (i : Nat) : w.cell? ⟨b, i, none⟩ = cs[i]? := by
  simp [World.cell?, h]

theorem Addr.add_none (b o n : Nat) : (⟨b, o, none⟩ : Addr).add n = ⟨b, o + n, none⟩ := by
  unfold Addr.add; split
  · rename_i h; subst h; rfl
  · rfl

/-- A cell reads as v wherever the chunks hold. -/
def Rdb (C : Ctx) (L : List Chunk) (b off : Nat) (v : Value) : Prop := ∀ w, Holds C L w → w.cell? ⟨b, off, none⟩ = some v

theorem Rdb.pt {C : Ctx} {L : List Chunk} {b off : Nat} {v : Value} (i : Nat) {cs : List Value} {ty : TypeId} (hi : lget L i = some (X.pt b cs ty)) (hv : lget cs off = some v) : Rdb C L b off v := by
  intro w hw
  obtain ⟨T, _, hb⟩ := hw.mem hi
  rw [cell_of_block hb, ← lget_eq, hv]

theorem Rdb.roPt {C : Ctx} {L : List Chunk} {b off : Nat} {v : Value} {cs : List Value} {ty : TypeId} (h : RO C.w0 C.S0 (X.pt b cs ty)) (hv : lget cs off = some v) : Rdb C L b off v := by
  intro w hw
  obtain ⟨T, ⟨_, hb⟩, _⟩ := h.now hw.1
  rw [cell_of_block hb, ← lget_eq, hv]

theorem RunsTo.load1 {C : Ctx} [hC : CtxOk C] {L : List Chunk} {t : TypeId} {b off : Nat} {v : Value} (ht : aggOf C.tab t = some false) (h : Rdb C L b off v) : RunsTo C L (Instr.loadAt t (.pointer (some ⟨b, off, none⟩))) v := by
  intro w hw
  have := run_isAgg' (w := w) hC.tab ht
  simp [Instr.loadAt, Instr.sureAddr, loadVar, this, h w hw]

theorem run_loadCellsFrom {P : Program} {w : World} {b off : Nat} : ∀ (vs : List Value) (i : Nat) (acc : Array Value), (∀ j v, vs[j]? = some v → w.cell? ⟨b, off + (i + j), none⟩ = some v) →
    (loadCellsFrom ⟨b, off, none⟩ i vs.length acc).run P w = .ok (acc ++ vs.toArray) w
  | [], i, acc, _ => by simp [loadCellsFrom]
  | v :: vs, i, acc, h => by
    have h0 := h 0 v rfl
    have := run_loadCellsFrom (P := P) vs (i + 1) (acc.push v) fun j u hu => by
      have := h (j + 1) u (by simpa using hu)
      rwa [show i + (j + 1) = i + 1 + j by omega] at this
    simp only [List.length_cons, loadCellsFrom, Addr.add_none, Sem.run_bind, run_load]
    rw [show off + i = off + (i + 0) by rfl, h0]
    simp only [Result.andThen_ok, this]
    simp

theorem RunsTo.loadN {C : Ctx} [hC : CtxOk C] {L : List Chunk} {t : TypeId} {b off : Nat} {vs : List Value} {ti : TyI} (ht : aggOf C.tab t = some true) (hti : tget C.tab t = some ti) (hn : vs.length = ti.size)
    (h : ∀ j v, vs[j]? = some v → Rdb C L b (off + j) v) : RunsTo C L (Instr.loadAt t (.pointer (some ⟨b, off, none⟩))) (.agg ⟨vs⟩) := by
  intro w hw
  have h1 := run_isAgg' (w := w) hC.tab ht
  have h2 := run_sizeOf' (w := w) (hC.tab.get hti)
  have h3 := run_loadCellsFrom (P := C.P) (w := w) (b := b) (off := off) vs 0 #[] fun j v hj => by simpa using h j v hj w hw
  simp only [Instr.loadAt, Instr.sureAddr, Sem.run_bind, Sem.run_pure, Result.andThen_ok, loadVar, h1, if_true, h2, ← hn, loadCells, h3]
  simp

/-- Load a cell of block number i of the chunks. -/
theorem ld {C : Ctx} [hC : CtxOk C] {L : List Chunk} {t : TypeId} {b off : Nat} {v : Value} (i : Nat) {cs : List Value} {ty : TypeId} (hi : lget L i = some (pt b cs ty)) (hv : lget cs off = some v) (ht : aggOf C.tab t = some false) :
    RunsTo C L (Instr.loadAt t (.pointer (some ⟨b, off, none⟩))) v := .load1 ht (.pt i hi hv)
theorem ldA {C : Ctx} [hC : CtxOk C] {L : List Chunk} {t : TypeId} {b off : Nat} (i : Nat) {cs vs : List Value} {ty : TypeId} {ti : TyI} (hi : lget L i = some (pt b cs ty)) (ht : aggOf C.tab t = some true) (hti : tget C.tab t = some ti)
    (hv : takeL ti.size (dropL off cs) = vs) (hn : vs.length = ti.size) : RunsTo C L (Instr.loadAt t (.pointer (some ⟨b, off, none⟩))) (.agg ⟨vs⟩) :=
  .loadN ht hti hn fun j v hj => .pt i hi (by
    subst hv
    rw [takeL_eq, dropL_eq] at hj
    rw [lget_eq]
    rw [List.getElem?_take] at hj
    split at hj
    · rwa [List.getElem?_drop] at hj
    · cases hj)

/-! ### stores -/
def setL {α : Type} : List α → Nat → α → List α
  | [], _, _ => []
  | _ :: l, 0, a => a :: l
  | b :: l, i + 1, a => b :: setL l i a
theorem setL_takeAt : ∀ {L : List Chunk} {i : Nat} {c d : Chunk}, lget L i = some c → ∃ M, L.Perm (c :: M) ∧ (d :: M).Perm (setL L i d)
  | _ :: L, 0, c, d, h => by simp [lget] at h; subst h; exact ⟨L, .refl _, .refl _⟩
  | x :: L, i + 1, c, d, h => by
    obtain ⟨M, h1, h2⟩ := setL_takeAt (d := d) (L := L) (i := i) (by simpa [lget] using h)
    exact ⟨x :: M, (List.Perm.cons x h1).trans (.swap _ _ _), (List.Perm.swap _ _ _).trans (List.Perm.cons x h2)⟩

/-- One chunk turns in place. -/
theorem Holds.turnAt {C : Ctx} {L : List Chunk} {w w' : World} {i : Nat} {c d : Chunk} (h : Holds C L w) (hi : lget L i = some c) (hc : ∀ S1, c.sat w S1 → (∀ b, S1 b → b < w.heap.size) → Inv w S1 [d] w') : Holds C (setL L i d) w' := by
  obtain ⟨M, h1, h2⟩ := setL_takeAt (d := d) hi
  exact Inv.perm h2 (Inv.turn (M := [d]) (Inv.perm h1 h) hc)

theorem Inv.one {w w' : World} {S : FP} {d : Chunk} {T : FP} (hf : Fr w S w') (hd : d.sat w' T) (hT : ∀ b, T b → S b ∨ w.heap.size ≤ b) : Inv w S [d] w' :=
  ⟨hf, T, ⟨T, fun _ => False, hd, trivial, fun _ _ h => h, fun _ h => h, fun _ h => h.elim⟩, fun b hb => ⟨d.dom hd hb, hT b hb⟩⟩

theorem Fr.setCells {w : World} {b : Nat} {S : FP} (hS : S b) {h' : Array Obj} (hs : h'.size = w.heap.size) (hb : ∀ k, k ≠ b → h'[k]? = w.heap[k]?) : Fr w S { w with heap := h' } :=
  ⟨rfl, rfl, rfl, by simp [hs], fun k _ hk => hb k fun he => hk (he ▸ hS)⟩

theorem run_storeCells {P : Program} {b : Nat} {ty : TypeId} : ∀ (vs : List Value) (w : World) (cs : List Value) (off i : Nat), (∀ v ∈ vs, v.oneCell' = true) → off + i + vs.length ≤ cs.length → w.heap[b]? = some (.cells cs.toArray ty (0, 0)) →
    ∃ w', (storeCells ⟨b, off, none⟩ vs i).run P w = .ok () w' ∧ w'.heap[b]? = some (.cells (over cs (off + i) vs).toArray ty (0, 0)) ∧ w'.heap.size = w.heap.size ∧ (∀ k, k ≠ b → w'.heap[k]? = w.heap[k]?) ∧ w'.os = w.os ∧ w'.tape = w.tape ∧ w'.output = w.output
  | [], w, cs, off, i, _, _, hb => ⟨w, by simp [storeCells], by simpa [over] using hb, rfl, fun _ _ => rfl, rfl, rfl, rfl⟩
  | v :: vs, w, cs, off, i, h1, hlen, hb => by
    simp at hlen
    have hcell : w.cell? ⟨b, off + i, none⟩ = some cs[off + i] := by rw [cell_of_block hb]; simp [show off + i < cs.length by omega]
    have hfr : w.frozen? ⟨b, off + i, none⟩ = false := by simp [World.frozen?, hb]
    have hb' : (w.setCell ⟨b, off + i, none⟩ v).heap[b]? = some (.cells (cs.set (off + i) v).toArray ty (0, 0)) := by
      simp [World.setCell, Array.getElem?_modify, hb]
    obtain ⟨w', r1, r2, r3, r4, r5, r6, r7⟩ := run_storeCells (P := P) vs (w.setCell ⟨b, off + i, none⟩ v) (cs.set (off + i) v) off (i + 1) (fun u hu => h1 u (by simp [hu])) (by simp; omega) hb'
    refine ⟨w', ?_, ?_, by rw [r3]; simp, fun k hk => ?_, r5, r6, r7⟩
    · simp only [storeCells, Addr.add_none, Sem.run_bind, run_store P w _ v .plain (h1 v (by simp)), hcell, hfr, Bool.false_eq_true, if_false, Result.andThen_ok, r1]
    · rw [r2]
      have key : ∀ (l : List Value) (j : Nat), over (l.set j v) (j + 1) vs = over l j (v :: vs) := by
        intro l
        induction l with
        | nil => intro j; cases vs <;> simp [over]
        | cons a l ih =>
          intro j
          cases j with
          | zero => cases vs <;> simp [over]
          | succ j =>
            have := ih j
            cases vs with
            | nil => simp only [List.set_cons_succ, over] at this ⊢; rw [this]
            | cons u vs => simp only [List.set_cons_succ, over] at this ⊢; rw [this]
      rw [show off + (i + 1) = off + i + 1 by omega, key]
    · rw [r4 k hk]; exact RowKit.Below.heap_setCell _ _ _ _ hk

/-- Store into block number i of the chunks. -/
theorem st {C : Ctx} [hC : CtxOk C] {L : List Chunk} {t : TypeId} {b off : Nat} {v : Value} {R : Unit → List Chunk → Prop} (i : Nat) {cs : List Value} {ty : TypeId} {ti : TyI} (hi : lget L i = some (pt b cs ty)) (hti : tget C.tab t = some ti)
    (hn : (cellsL v).length = ti.size) (h1 : (cellsL v).all Value.oneCell' = true) (hlen : Nat.ble (off + ti.size) cs.length = true) (hR : forceL (over cs off (cellsL v)) fun cs' => R () (setL L i (pt b cs' ty))) : Does C L (Instr.storeAt t (.pointer (some ⟨b, off, none⟩)) v) R := by
  intro w hw
  have hR := forceL_out hR
  obtain ⟨T, hT, hb⟩ := hw.mem hi
  have hle : off + ti.size ≤ cs.length := by simpa using hlen
  have hall : ∀ u ∈ cellsL v, u.oneCell' = true := List.all_eq_true.1 h1
  obtain ⟨w', r1, r2, r3, r4, r5, r6, r7⟩ := run_storeCells (P := C.P) (cellsL v) w cs off 0 hall (by omega) hb
  have hsz := run_sizeOf' (w := w) (hC.tab.get hti)
  refine ⟨(), w', _, ?_, ?_, hR⟩
  · have e1 : v.cells.size = ti.size := by rw [cellsL_eq]; simpa using hn
    have e2 : v.cells.toList = cellsL v := by rw [cellsL_eq]
    simp only [Instr.storeAt, Instr.sureAddr, Sem.run_bind, Sem.run_pure, Result.andThen_ok, storeVar, hsz, e1, ne_eq, not_true_eq_false, if_false, e2]
    exact r1
  · refine hw.turnAt hi fun S1 hs hd => ?_
    have hS1 : S1 b := (hs.1 b).2 rfl
    refine Inv.one (T := S1) ⟨r5, r6, r7, by omega, fun k _ hk => r4 k fun he => hk (he ▸ hS1)⟩ ⟨hs.1, ?_⟩ fun _ h => .inl h
    simpa using r2

/-! ### slices that are only read -/
/-- The slice's address A, and what its elements are: each of sz cells. -/
def roS {α : Type} (A : Option Addr) (sz : Nat) (enc : α → List Value) (xs : List α) : Chunk where
  sat w S := (∀ k, S k ↔ ∃ a, A = some a ∧ k = a.block ∧ xs ≠ []) ∧ (xs ≠ [] → 0 < sz) ∧ (∀ x ∈ xs, (enc x).length = sz) ∧
    (xs ≠ [] → ∃ b o, A = some ⟨b, o, none⟩ ∧ ∀ i x, xs[i]? = some x → ∀ j v, (enc x)[j]? = some v → w.cell? ⟨b, o + (i * sz + j), none⟩ = some v)
  stab {w w' S} h hk := ⟨h.1, h.2.1, h.2.2.1, fun hne => by
    obtain ⟨b, o, rfl, hc⟩ := h.2.2.2 hne
    refine ⟨b, o, rfl, fun i x hi j v hj => ?_⟩
    have := hk b ((h.1 b).2 ⟨_, rfl, rfl, hne⟩)
    rw [World.cell?_of_block (w := w) (w' := w') this]
    exact hc i x hi j v hj⟩
  dom {w S b} h hb := by
    obtain ⟨a, rfl, rfl, hne⟩ := (h.1 b).1 hb
    obtain ⟨b, o, he, hc⟩ := h.2.2.2 hne
    cases he
    obtain ⟨x, xs', rfl⟩ : ∃ x xs', xs = x :: xs' := by cases xs with | nil => exact absurd rfl hne | cons x xs' => exact ⟨x, xs', rfl⟩
    have hl := h.2.2.1 x (by simp)
    have h0 := h.2.1 hne
    obtain ⟨v, hv⟩ : ∃ v, (enc x)[0]? = some v := by
      cases he : enc x with
      | nil => simp [he] at hl; omega
      | cons v l => exact ⟨v, rfl⟩
    exact World.block_lt_of_cell? w ⟨b, o + (0 * sz + 0), none⟩ (hc 0 x rfl 0 v hv)

theorem roS_at {α : Type} {w : World} {S : FP} {A : Option Addr} {sz : Nat} {enc : α → List Value} {xs : List α} (h : RO w S (roS A sz enc xs)) (hne : 0 < xs.length) : ∃ b o, A = some ⟨b, o, none⟩ := by
  obtain ⟨T, ⟨_, _, _, hc⟩, _⟩ := h
  obtain ⟨b, o, h, _⟩ := hc (by intro h; simp [h] at hne)
  exact ⟨b, o, h⟩

theorem Rdb.ro {α : Type} {C : Ctx} {L : List Chunk} {b o off sz i j : Nat} {enc : α → List Value} {xs : List α} {x : α} {v : Value} (h : RO C.w0 C.S0 (roS (some ⟨b, o, none⟩) sz enc xs))
    (hi : xs[i]? = some x) (hj : (enc x)[j]? = some v) (hoff : off = o + (i * sz + j)) : Rdb C L b off v := by
  intro w hw
  obtain ⟨T, ⟨_, _, _, hc⟩, _⟩ := h.now hw.1
  obtain ⟨b', o', he, hc⟩ := hc (by intro h; simp [h] at hi)
  cases he
  rw [hoff]
  exact hc i x hi j v hj
/-- Load a field of an element. -/
theorem ldR {α : Type} {C : Ctx} [hC : CtxOk C] {L : List Chunk} {t : TypeId} {b o off sz : Nat} {enc : α → List Value} {xs : List α} {x : α} {v : Value} (h : RO C.w0 C.S0 (roS (some ⟨b, o, none⟩) sz enc xs)) (i j : Nat)
    (hi : xs[i]? = some x) (hj : lget (enc x) j = some v) (ht : aggOf C.tab t = some false) (hoff : off = o + (i * sz + j)) : RunsTo C L (Instr.loadAt t (.pointer (some ⟨b, off, none⟩))) v :=
  .load1 ht (.ro h hi (by rw [← lget_eq]; exact hj) hoff)
/-- Load a whole element. -/
theorem ldRA {α : Type} {C : Ctx} [hC : CtxOk C] {L : List Chunk} {t : TypeId} {b o off sz : Nat} {enc : α → List Value} {xs : List α} {x : α} {ti : TyI} (h : RO C.w0 C.S0 (roS (some ⟨b, o, none⟩) sz enc xs)) (i : Nat)
    (hi : xs[i]? = some x) (ht : aggOf C.tab t = some true) (hti : tget C.tab t = some ti) (hn : (enc x).length = ti.size) (hoff : off = o + i * sz) : RunsTo C L (Instr.loadAt t (.pointer (some ⟨b, off, none⟩))) (.agg ⟨enc x⟩) :=
  .loadN ht hti hn fun j v hj => .ro h hi hj (by omega)

theorem Does.ent {α : Type} {C : Ctx} {L M : List Chunk} {s : Sem α} {R : α → List Chunk → Prop} (h : Ent L M) (hd : Does C M s R) : Does C L s R := fun w hw => hd w (h _ _ _ hw)
theorem RunsTo.ent {C : Ctx} {L M : List Chunk} {s : Sem Value} {v : Value} (h : Ent L M) (hd : RunsTo C M s v) : RunsTo C L s v := fun w hw => hd w (h _ _ _ hw)

/-! ### loops -/
/-- What holds at a loop's head: of some state s of the loop, with measure n. -/
def LoopInv {σ : Type} (E : σ → Env) (H : σ → List Chunk) (p : σ → Prop) (μ : σ → Nat) : Nat → Env → List Chunk → Prop := fun n e L => ∃ s, n = μ s ∧ p s ∧ e = E s ∧ L = H s
/-- A loop, by what it goes round with: slots, chunks, a condition, a measure. -/
theorem loopI {F : Env → List Chunk → (Env → List Chunk → Prop) → Prop} {e : Env} {L : List Chunk} {σ : Type} (E : σ → Env) (H : σ → List Chunk) (p : σ → Prop) (μ : σ → Nat) (s0 : σ)
    (hE : Le (E s0) e) (hH : Ent L (H s0)) (hp : p s0)
    (hr : ∀ s, p s → F (E s) (H s) (fun e L => ∃ m, m < μ s ∧ At (LoopInv E H p μ) m e L)) : XLoop F e L := by
  unfold XLoop
  refine ⟨LoopInv E H p μ, ⟨μ s0, E s0, H s0, hE, hH, s0, rfl, hp, rfl, rfl⟩, ?_⟩
  rintro _ _ _ ⟨s, rfl, hp, rfl, rfl⟩
  exact hr s hp
/-- The round's end. -/
theorem backI {e : Env} {L : List Chunk} {σ : Type} {E : σ → Env} {H : σ → List Chunk} {p : σ → Prop} {μ : σ → Nat} {N : Nat} (s' : σ) (hm : μ s' < N) (hp : p s') (hE : Le (E s') e) (hH : Ent L (H s')) :
    ∃ m, m < N ∧ At (LoopInv E H p μ) m e L := ⟨μ s', hm, E s', _, hE, hH, s', rfl, hp, rfl, rfl⟩

@[simp] theorem packV_one (v : Value) : packV [v] = v := rfl
@[simp] theorem packV_two (u v : Value) : packV [u, v] = .tuple #[u, v] := rfl

/-! ### arithmetic that does not wrap -/
theorem wrap_i64 {x : Int} (h1 : -9223372036854775808 ≤ x) (h2 : x ≤ 9223372036854775807) : x = IntKind.i64.wrap x := (IntWalk.i64_in x ⟨h1, h2⟩).symm

end Go.X

/- Rules for maps: a map as a list of keys with values; lookups, stores, deletes; ranging. -/
namespace Go.X
set_option linter.unusedVariables false
set_option linter.unusedSimpArgs false
set_option linter.unusedSectionVars false
open Go.ChangeMaps Go.MapKept

theorem gobj {P : Program} {w : World} {r : Nat} {es : Array MapEntry} {clock : Nat} (hb : w.heap[r]? = some (.map es clock)) : (getObj r).run P w = .ok (.map es clock) w := by simp [getObj, Sem.run, hb]
theorem sobj {P : Program} {w : World} {r : Nat} {es : Array MapEntry} {clock : Nat} (o : Obj) (hb : w.heap[r]? = some (.map es clock)) : (setObj r o).run P w = .ok () { w with heap := w.heap.setIfInBounds r o } := by simp [setObj, Sem.run, hb]

/-- How keys of type kt are compared: values encK k are keys, and equal exactly if they are one. -/
structure KeyLaw {κ : Type} (P : Program) (kt : TypeId) (encK : κ → Value) : Prop where
  inj : ∀ a b, encK a = encK b → a = b
  check : ∀ w e k, (Instr.checkKey e 10000 kt (encK k)).run P w = .ok () w
  find : ∀ w k (l : List MapEntry), (∀ x ∈ l, ∃ k', x.key = encK k') →
    (∃ j e, l[j]? = some e ∧ e.key = encK k ∧ (∀ j' e', j' < j → l[j']? = some e' → e'.key ≠ encK k) ∧ (Instr.findKey kt (encK k) l).run P w = .ok (some (j, e.val)) w) ∨
    ((∀ x ∈ l, x.key ≠ encK k) ∧ (Instr.findKey kt (encK k) l).run P w = .ok none w)
  stay : ∀ w k, (Instr.keyThatStays (encK k) (encK k)).run P w = .ok (encK k) w

theorem KeyLaw.of_plain {κ : Type} {P : Program} {kt : TypeId} {encK : κ → Value} {d : TypeDesc} (hd : P.underlying kt = some d) (hi : ∀ a b, encK a = encK b → a = b) (hk : ∀ k, IsKey d (encK k)) : KeyLaw P kt encK where
  inj := hi
  check w e k := run_checkKey hd (hk k) e 9999
  stay w k := run_keyThatStays (hk k)
  find w k l hl := by
    have hl' : ∀ x ∈ l, IsKey d x.key := fun x hx => by obtain ⟨k', hk'⟩ := hl x hx; rw [hk']; exact hk k'
    have key : ∀ (l : List MapEntry) (i : Nat), (∀ x ∈ l, IsKey d x.key) →
        (Instr.findNow d (encK k) l i = some none ∧ ∀ x ∈ l, x.key ≠ encK k) ∨ ∃ j e, Instr.findNow d (encK k) l i = some (some (i + j, e.val)) ∧ l[j]? = some e ∧ e.key = encK k ∧ ∀ j' e', j' < j → l[j']? = some e' → e'.key ≠ encK k := by
      intro l
      induction l with
      | nil => intro i _; exact .inl ⟨rfl, by simp⟩
      | cons e es ih =>
        intro i h
        obtain ⟨r, hr, hiff⟩ := sameNow_of_keys (hk k) (h e (.head _))
        cases r with
        | true => exact .inr ⟨0, e, by simp [Instr.findNow, hr], rfl, (hiff.1 rfl).symm, fun j' e' hj => by omega⟩
        | false =>
          have hne : e.key ≠ encK k := fun q => by have := hiff.2 q.symm; cases this
          rcases ih (i + 1) (fun x hx => h x (.tail _ hx)) with ⟨h1, h2⟩ | ⟨j, e', h1, h2, h3, h4⟩
          · exact .inl ⟨by simp [Instr.findNow, hr, h1], fun x hx => by
              cases hx with
              | head => exact hne
              | tail _ hx => exact h2 x hx⟩
          · refine .inr ⟨j + 1, e', by simp [Instr.findNow, hr, h1]; omega, by simpa using h2, h3, fun j' e'' hj he => ?_⟩
            cases j' with
            | zero => simp at he; subst he; exact hne
            | succ j' => exact h4 j' e'' (by omega) (by simpa using he)
    rcases key l 0 hl' with ⟨h1, h2⟩ | ⟨j, e, h1, h2, h3, h4⟩
    · exact .inr ⟨h2, run_findKey hd h1⟩
    · exact .inl ⟨j, e, h2, h3, h4, run_findKey hd (by simpa using h1)⟩

section
variable {κ α : Type} [DecidableEq κ]
/-- The value of a key. -/
def lk (M : List (κ × α)) (k : κ) : Option α := match M with
  | [] => none
  | (k', a) :: r => if k' = k then some a else lk r k
/-- A key gets a value. -/
def ins (M : List (κ × α)) (k : κ) (a : α) : List (κ × α) := match M with
  | [] => [(k, a)]
  | (k', a') :: r => if k' = k then (k, a) :: r else (k', a') :: ins r k a
/-- A key goes. -/
def del (M : List (κ × α)) (k : κ) : List (κ × α) := match M with
  | [] => []
  | (k', a') :: r => if k' = k then r else (k', a') :: del r k

theorem lk_of_get {M : List (κ × α)} {k : κ} {a : α} : ∀ {j : Nat}, M[j]? = some (k, a) → (∀ j' p, j' < j → M[j']? = some p → p.1 ≠ k) → lk M k = some a := by
  induction M with
  | nil => intro j h; simp at h
  | cons p M ih =>
    obtain ⟨k', a'⟩ := p
    intro j hj hf
    cases j with
    | zero => simp at hj; simp [lk, hj]
    | succ j =>
      have h0 := hf 0 (k', a') (by omega) rfl
      simp only [lk, if_neg h0]
      exact ih (j := j) (by simpa using hj) fun j' p hlt hp => hf (j' + 1) p (by omega) (by simpa using hp)
theorem lk_none {M : List (κ × α)} {k : κ} (h : ∀ p ∈ M, p.1 ≠ k) : lk M k = none := by
  induction M with
  | nil => rfl
  | cons p M ih => obtain ⟨k', a'⟩ := p; simp only [lk, if_neg (h (k', a') (by simp))]; exact ih fun q hq => h q (by simp [hq])
theorem ins_of_get {M : List (κ × α)} {k : κ} {a b : α} : ∀ {j : Nat}, M[j]? = some (k, a) → (∀ j' p, j' < j → M[j']? = some p → p.1 ≠ k) → ins M k b = M.set j (k, b) := by
  induction M with
  | nil => intro j h; simp at h
  | cons p M ih =>
    obtain ⟨k', a'⟩ := p
    intro j hj hf
    cases j with
    | zero => simp at hj; simp [ins, hj]
    | succ j =>
      have h0 := hf 0 (k', a') (by omega) rfl
      simp only [ins, if_neg h0, List.set_cons_succ]
      rw [ih (j := j) (by simpa using hj) fun j' p hlt hp => hf (j' + 1) p (by omega) (by simpa using hp)]
theorem ins_none {M : List (κ × α)} {k : κ} {b : α} (h : ∀ p ∈ M, p.1 ≠ k) : ins M k b = M ++ [(k, b)] := by
  induction M with
  | nil => rfl
  | cons p M ih => obtain ⟨k', a'⟩ := p; simp only [ins, if_neg (h (k', a') (by simp))]; rw [ih fun q hq => h q (by simp [hq])]; rfl
theorem del_of_get {M : List (κ × α)} {k : κ} {a : α} : ∀ {j : Nat}, M[j]? = some (k, a) → (∀ j' p, j' < j → M[j']? = some p → p.1 ≠ k) → del M k = M.eraseIdx j := by
  induction M with
  | nil => intro j h; simp at h
  | cons p M ih =>
    obtain ⟨k', a'⟩ := p
    intro j hj hf
    cases j with
    | zero => simp at hj; simp [del, hj]
    | succ j =>
      have h0 := hf 0 (k', a') (by omega) rfl
      simp only [del, if_neg h0, List.eraseIdx_cons_succ]
      rw [ih (j := j) (by simpa using hj) fun j' p hlt hp => hf (j' + 1) p (by omega) (by simpa using hp)]
theorem del_none {M : List (κ × α)} {k : κ} (h : ∀ p ∈ M, p.1 ≠ k) : del M k = M := by
  induction M with
  | nil => rfl
  | cons p M ih => obtain ⟨k', a'⟩ := p; simp only [del, if_neg (h (k', a') (by simp))]; rw [ih fun q hq => h q (by simp [hq])]
end

section
variable {κ α : Type}
theorem map_erase {β γ : Type} (f : β → γ) : ∀ (l : List β) (i : Nat), (l.eraseIdx i).map f = (l.map f).eraseIdx i
  | [], i => by simp
  | a :: l, 0 => by simp
  | a :: l, i + 1 => by simp [map_erase f l i]
/-- The entries of a map. -/
def Ents (encK : κ → Value) (encV : α → Value) (es : List MapEntry) (M : List (κ × α)) : Prop := es.map (fun e => (e.key, e.val)) = M.map fun p => (encK p.1, encV p.2)
theorem Ents.get {encK : κ → Value} {encV : α → Value} {es : List MapEntry} {M : List (κ × α)} (h : Ents encK encV es M) {j : Nat} {e : MapEntry} (he : es[j]? = some e) : ∃ p, M[j]? = some p ∧ e.key = encK p.1 ∧ e.val = encV p.2 := by
  have := congrArg (·[j]?) h
  simp only [List.getElem?_map, he, Option.map_some] at this
  cases hp : M[j]? with
  | none => simp [hp] at this
  | some p => simp [hp] at this; exact ⟨p, rfl, this.1, this.2⟩
theorem Ents.get' {encK : κ → Value} {encV : α → Value} {es : List MapEntry} {M : List (κ × α)} (h : Ents encK encV es M) {j : Nat} {p : κ × α} (hp : M[j]? = some p) : ∃ e, es[j]? = some e ∧ e.key = encK p.1 ∧ e.val = encV p.2 := by
  have := congrArg (·[j]?) h
  simp only [List.getElem?_map, hp, Option.map_some] at this
  cases he : es[j]? with
  | none => simp [he] at this
  | some e => simp [he] at this; exact ⟨e, rfl, this.1, this.2⟩
theorem Ents.keys {encK : κ → Value} {encV : α → Value} {es : List MapEntry} {M : List (κ × α)} (h : Ents encK encV es M) : ∀ x ∈ es, ∃ k', x.key = encK k' := by
  intro x hx
  obtain ⟨j, hj⟩ := List.mem_iff_getElem?.1 hx
  obtain ⟨p, _, h1, _⟩ := h.get hj
  exact ⟨p.1, h1⟩
theorem Ents.length {encK : κ → Value} {encV : α → Value} {es : List MapEntry} {M : List (κ × α)} (h : Ents encK encV es M) : es.length = M.length := by
  have := congrArg List.length h
  simpa using this

/-- Block b is a map with these keys and values. -/
def mp (b : Nat) (encK : κ → Value) (encV : α → Value) (M : List (κ × α)) : Chunk where
  sat w S := (∀ k, S k ↔ k = b) ∧ ∃ es clock, w.heap[b]? = some (.map es clock) ∧ Stamped es clock ∧ Ents encK encV es.toList M
  stab h hk := ⟨h.1, let ⟨es, clock, hb, r⟩ := h.2; ⟨es, clock, (hk b ((h.1 b).2 rfl)).trans hb, r⟩⟩
  dom h hb := by
    have := (h.1 _).1 hb
    subst this
    obtain ⟨es, clock, hb, _⟩ := h.2
    exact (Array.getElem?_eq_some_iff.1 hb).1

/-- Ranging: iterator r over map b; 'cur': where it stands; 'left': what is still to come. -/
def mpi (r b : Nat) (encK : κ → Value) (encV : α → Value) (M : List (κ × α)) (cur : Option (κ × α)) (left : List (κ × α)) : Chunk where
  sat w S := (∀ k, S k ↔ k = b ∨ k = r) ∧ r ≠ b ∧ ∃ es clock seen, w.heap[b]? = some (.map es clock) ∧ Stamped es clock ∧ Ents encK encV es.toList M ∧ w.heap[r]? = some (.mapIter (some b) clock seen clock) ∧
    Ents encK encV (es.toList.filter fun e => !seen.contains e.born) left ∧ (∀ p, cur = some p → ∃ e, e ∈ es.toList ∧ seen.back? = some e.born ∧ e.key = encK p.1 ∧ e.val = encV p.2)
  stab h hk := ⟨h.1, h.2.1, let ⟨es, clock, seen, hb, h1, h2, hr, h3⟩ := h.2.2; ⟨es, clock, seen, (hk b ((h.1 b).2 (.inl rfl))).trans hb, h1, h2, (hk r ((h.1 r).2 (.inr rfl))).trans hr, h3⟩⟩
  dom h hb := by
    obtain ⟨es, clock, seen, h1, _, _, h2, _⟩ := h.2.2
    rcases (h.1 _).1 hb with rfl | rfl
    · exact (Array.getElem?_eq_some_iff.1 h1).1
    · exact (Array.getElem?_eq_some_iff.1 h2).1

theorem mp_new {encK : κ → Value} {encV : α → Value} (b : Nat) {L : List Chunk} : Ent (ob b (.map #[] 0) :: L) (mp b encK encV [] :: L) :=
  .conv fun w T h => ⟨T, ⟨h.1, #[], 0, h.2, stamped_empty 0, rfl⟩, fun _ h => h⟩
end

section
variable {κ α : Type} [DecidableEq κ] {C : Ctx} {L : List Chunk}

/-- What a lookup gives. -/
def lkV (encV : α → Value) (z : Value) (r : Option α) (ok : Bool) : Value := match ok, r with
  | true, some a => .tuple #[encV a, .bool true]
  | true, none => .tuple #[z, .bool false]
  | false, some a => encV a
  | false, none => z

theorem run_lookup {P : Program} {w : World} {kt et t : TypeId} {b : Nat} {es : Array MapEntry} {clock : Nat} {encK : κ → Value} {encV : α → Value} {M : List (κ × α)} {z : Value} (hl : KeyLaw P kt encK) (ht : P.underlying t = some (.map kt et))
    (hz : (zeroValue et).run P w = .ok z w) (hb : w.heap[b]? = some (.map es clock)) (he : Ents encK encV es.toList M) (k : κ) (ok : Bool) :
    (Instr.lookup t (.map (some b)) (encK k) ok).run P w = .ok (lkV encV z (lk M k) ok) w := by
  have hgo := gobj (P := P) hb
  have hck := hl.check w es.isEmpty k
  rcases hl.find w k es.toList he.keys with ⟨j, e, hj, hke, hf, hrun⟩ | ⟨hno, hrun⟩
  · obtain ⟨p, hp, h1, h2⟩ := he.get hj
    have hpk : p.1 = k := hl.inj _ _ (h1.symm.trans hke)
    have hlk : lk M k = some p.2 := lk_of_get (j := j) (by rw [hp, ← hpk]) fun j' q hlt hq hqk => by
      obtain ⟨e', he', hk', _⟩ := he.get' hq
      exact hf j' e' hlt he' (by rw [hk', hqk])
    simp only [Instr.lookup, Sem.run_bind, run_underlying' ht, Result.andThen_ok, hgo, Sem.run_pure, hck, hrun, hlk, h2]
    cases ok <;> rfl
  · have hlk : lk M k = none := lk_none fun p hp hpk => by
      obtain ⟨j, hj⟩ := List.mem_iff_getElem?.1 hp
      obtain ⟨e, he', hk', _⟩ := he.get' hj
      exact hno e (List.mem_of_getElem? he') (by rw [hk', hpk])
    simp only [Instr.lookup, Sem.run_bind, run_underlying' ht, Result.andThen_ok, hgo, Sem.run_pure, hck, hrun, hlk, hz]
    cases ok <;> rfl

/-- The zero value of a type of the table. -/
def zeroOf (tab : Tab) (t : TypeId) : Option Value := match tget tab t with
  | some ⟨.struct _, _, _, z⟩ => some (.agg ⟨z⟩)
  | some ⟨.array _ _, _, _, z⟩ => some (.agg ⟨z⟩)
  | some ⟨_, _, _, [v]⟩ => some v
  | _ => none

theorem lookM [hC : CtxOk C] {t kt et : TypeId} {b : Nat} {encK : κ → Value} {encV : α → Value} {M : List (κ × α)} {ti : TyI} {z : Value} (i : Nat) (k : κ) (hl : KeyLaw C.P kt encK) (hi : lget L i = some (mp b encK encV M))
    (hti : tget C.tab t = some ti) (hk : ti.k = .map kt et) (hz : ∀ w, (zeroValue et).run C.P w = .ok z w) (ok : Bool) : RunsTo C L (Instr.lookup t (.map (some b)) (encK k) ok) (lkV encV z (lk M k) ok) := by
  intro w hw
  obtain ⟨T, _, es, clock, hb, hs, he⟩ := hw.mem hi
  obtain ⟨d, hd, hkd⟩ := (hC.tab.get hti).und
  rw [hk] at hkd
  obtain rfl := kOk.map hkd
  exact run_lookup hl hd (hz w) hb he k ok

theorem inv_setObj {w : World} {S1 : FP} {b : Nat} {o : Obj} {d : Chunk} (hS : ∀ k, S1 k ↔ k = b) (hlt : b < w.heap.size) (hd : d.sat { w with heap := w.heap.setIfInBounds b o } S1) : Inv w S1 [d] { w with heap := w.heap.setIfInBounds b o } :=
  Inv.one (T := S1) ⟨rfl, rfl, rfl, by simp, fun k _ hk => by
    have : b ≠ k := fun he => hk ((hS k).2 he.symm)
    simp [this]⟩ hd fun _ h => .inl h

theorem updM [hC : CtxOk C] {t kt et : TypeId} {b : Nat} {encK : κ → Value} {encV : α → Value} {M : List (κ × α)} {ti : TyI} {R : Unit → List Chunk → Prop} (i : Nat) (k : κ) (a : α) (hl : KeyLaw C.P kt encK) (hi : lget L i = some (mp b encK encV M))
    (hti : tget C.tab t = some ti) (hk : ti.k = .map kt et) (hR : R () (setL L i (mp b encK encV (ins M k a)))) : Does C L (Instr.mapUpdate t (.map (some b)) (encK k) (encV a)) R := by
  intro w hw
  obtain ⟨T, hT, es, clock, hb, hs, he⟩ := hw.mem hi
  obtain ⟨d, hd, hkd⟩ := (hC.tab.get hti).und
  rw [hk] at hkd
  obtain rfl := kOk.map hkd
  have hlt := (Array.getElem?_eq_some_iff.1 hb).1
  have hgo := gobj (P := C.P) hb
  have hck := hl.check w false k
  rcases hl.find w k es.toList he.keys with ⟨j, e, hj, hke, hf, hrun⟩ | ⟨hno, hrun⟩
  · obtain ⟨p, hp, h1, h2⟩ := he.get hj
    have hpk : p.1 = k := hl.inj _ _ (h1.symm.trans hke)
    have hins : ins M k a = M.set j (k, a) := ins_of_get (j := j) (a := p.2) (by rw [hp, ← hpk]) fun j' q hlt hq hqk => by
      obtain ⟨e', he', hk', _⟩ := he.get' hq
      exact hf j' e' hlt he' (by rw [hk', hqk])
    have hj' : es[j]? = some e := by simpa using hj
    have hstay := hl.stay w k
    refine ⟨(), { w with heap := w.heap.setIfInBounds b (.map (es.modify j fun e => { e with key := encK k, val := encV a }) clock) }, _, ?_, hw.turnAt (d := mp b encK encV (ins M k a)) hi (fun S1 h1' _ => inv_setObj h1'.1 hlt ⟨h1'.1, es.modify j fun e => { e with key := encK k, val := encV a }, clock, ?_, ?_, ?_⟩), hR⟩
    · simp only [Instr.mapUpdate, Sem.run_bind, run_underlying' hd, Result.andThen_ok, hgo, hck, hrun, hj', Option.map_some, Option.getD_some, hke, hstay, sobj _ hb]
    · simp [hlt]
    · exact stamped_modify hs _ _ (fun _ _ => rfl) (fun e' _ he' => by rw [hj'] at he'; cases he'; exact hke.symm)
    · rw [hins]
      unfold Ents
      apply List.ext_getElem?
      intro m
      have := congrArg (·[m]?) he
      simp only [List.getElem?_map, Array.getElem?_toList, Array.getElem?_modify, List.getElem?_set] at this ⊢
      by_cases hjm : j = m
      · subst hjm
        obtain ⟨hlt', _⟩ := List.getElem?_eq_some_iff.1 hp
        simp [hj', hlt']
      · simp [hjm, this]
  · have hins : ins M k a = M ++ [(k, a)] := ins_none fun p hp hpk => by
      obtain ⟨j, hj⟩ := List.mem_iff_getElem?.1 hp
      obtain ⟨e, he', hk', _⟩ := he.get' hj
      exact hno e (List.mem_of_getElem? he') (by rw [hk', hpk])
    refine ⟨(), { w with heap := w.heap.setIfInBounds b (.map (es.push { key := encK k, val := encV a, born := clock }) (clock + 1)) }, _, ?_, hw.turnAt (d := mp b encK encV (ins M k a)) hi (fun S1 h1' _ => inv_setObj h1'.1 hlt ⟨h1'.1, es.push { key := encK k, val := encV a, born := clock }, clock + 1, ?_, stamped_push hs hno, ?_⟩), hR⟩
    · simp only [Instr.mapUpdate, Sem.run_bind, run_underlying' hd, Result.andThen_ok, hgo, hck, hrun, sobj _ hb]
    · simp [hlt]
    · rw [hins]
      have he' : List.map (fun e => (e.key, e.val)) es.toList = List.map (fun p => (encK p.1, encV p.2)) M := he
      unfold Ents
      simp only [Array.toList_push, List.map_append, he', List.map_cons, List.map_nil]

theorem delM [hC : CtxOk C] {t kt et ty : TypeId} {b : Nat} {encK : κ → Value} {encV : α → Value} {M : List (κ × α)} {ti : TyI} {R : Value → List Chunk → Prop} {ts : Array TypeId} (i : Nat) (k : κ) (hl : KeyLaw C.P kt encK) (hi : lget L i = some (mp b encK encV M))
    (hts : ts[0]? = some t) (hti : tget C.tab t = some ti) (hk : ti.k = .map kt et) (hR : R (.tuple #[]) (setL L i (mp b encK encV (del M k)))) : Does C L (Builtin.delete_ ts ty ⟨[.map (some b), encK k]⟩) R := by
  intro w hw
  obtain ⟨T, hT, es, clock, hb, hs, he⟩ := hw.mem hi
  obtain ⟨d, hd, hkd⟩ := (hC.tab.get hti).und
  rw [hk] at hkd
  obtain rfl := kOk.map hkd
  have hlt := (Array.getElem?_eq_some_iff.1 hb).1
  have hgo := gobj (P := C.P) hb
  have hck := hl.check w es.isEmpty k
  have ha0 : (⟨[.map (some b), encK k]⟩ : Array Value)[0]? = some (.map (some b)) := rfl
  have ha1 : (⟨[.map (some b), encK k]⟩ : Array Value)[1]? = some (encK k) := rfl
  rcases hl.find w k es.toList he.keys with ⟨j, e, hj, hke, hf, hrun⟩ | ⟨hno, hrun⟩
  · obtain ⟨p, hp, h1, h2⟩ := he.get hj
    have hpk : p.1 = k := hl.inj _ _ (h1.symm.trans hke)
    have hdel : del M k = M.eraseIdx j := del_of_get (j := j) (a := p.2) (by rw [hp, ← hpk]) fun j' q hlt hq hqk => by
      obtain ⟨e', he', hk', _⟩ := he.get' hq
      exact hf j' e' hlt he' (by rw [hk', hqk])
    have hlj : j < es.size := by obtain ⟨h, _⟩ := List.getElem?_eq_some_iff.1 hj; simpa using h
    refine ⟨.tuple #[], { w with heap := w.heap.setIfInBounds b (.map (es.eraseIdxIfInBounds j) clock) }, _, ?_, hw.turnAt (d := mp b encK encV (del M k)) hi (fun S1 h1' _ => inv_setObj h1'.1 hlt ⟨h1'.1, es.eraseIdxIfInBounds j, clock, ?_, stamped_erase hs j, ?_⟩), hR⟩
    · simp only [Builtin.delete_, hts, ha0, ha1, Sem.run_bind, run_underlying' hd, Result.andThen_ok, hgo, hck, hrun, sobj _ hb, Sem.run_pure]
    · simp [hlt]
    · rw [hdel]
      have he' : List.map (fun e => (e.key, e.val)) es.toList = List.map (fun p => (encK p.1, encV p.2)) M := he
      unfold Ents
      rw [Array.eraseIdxIfInBounds, dif_pos hlj]
      simp only [Array.toList_eraseIdx]
      rw [map_erase, map_erase, he']
  · have hdel : del M k = M := del_none fun p hp hpk => by
      obtain ⟨j, hj⟩ := List.mem_iff_getElem?.1 hp
      obtain ⟨e, he', hk', _⟩ := he.get' hj
      exact hno e (List.mem_of_getElem? he') (by rw [hk', hpk])
    refine ⟨.tuple #[], { w with heap := w.heap.setIfInBounds b (.map es clock) }, _, ?_, hw.turnAt (d := mp b encK encV (del M k)) hi (fun S1 h1' _ => inv_setObj h1'.1 hlt ⟨h1'.1, es, clock, ?_, hs, by rw [hdel]; exact he⟩), hR⟩
    · simp only [Builtin.delete_, hts, ha0, ha1, Sem.run_bind, run_underlying' hd, Result.andThen_ok, hgo, hck, hrun, sobj _ hb, Sem.run_pure]
    · simp [hlt]

/-! ### ranging -/
theorem rangeM [hC : CtxOk C] {t kt et : TypeId} {b : Nat} {encK : κ → Value} {encV : α → Value} {M : List (κ × α)} {ti : TyI} {R : Value → List Chunk → Prop} (i : Nat) (hi : lget L i = some (mp b encK encV M)) (hti : tget C.tab t = some ti) (hk : ti.k = .map kt et)
    (hR : ∀ r, R (.pointer (some ⟨r, 0, none⟩)) (setL L i (mpi r b encK encV M none M))) : Does C L (Instr.range t (.map (some b))) R := by
  intro w hw
  obtain ⟨T, hT, es, clock, hb, hs, he⟩ := hw.mem hi
  obtain ⟨d, hd, hkd⟩ := (hC.tab.get hti).und
  rw [hk] at hkd
  obtain rfl := kOk.map hkd
  have hlt := (Array.getElem?_eq_some_iff.1 hb).1
  have hgo := gobj (P := C.P) hb
  refine ⟨_, w.alloc (.mapIter (some b) clock #[] clock), _, ?_, hw.turnAt hi (fun S1 h1 hd1 => ?_), hR w.heap.size⟩
  · simp only [Instr.range, Sem.run_bind, run_underlying' hd, Result.andThen_ok, hgo, Sem.run_pure, run_newObj]
    rfl
  · have hold : ∀ k, k < w.heap.size → (w.alloc (.mapIter (some b) clock #[] clock)).heap[k]? = w.heap[k]? := fun k hk => RowKit.Below.heap_alloc w _ k hk
    refine Inv.one (T := fun k => k = b ∨ k = w.heap.size) ⟨rfl, rfl, rfl, by simp, fun k hk _ => hold k hk⟩ ⟨fun _ => Iff.rfl, by omega, es, clock, #[], (hold b hlt).trans hb, hs, he, ?_, ?_, by simp⟩ ?_
    · show (w.heap.push _)[w.heap.size]? = _; simp
    · have : es.toList.filter (fun e => !(#[] : Array Nat).contains e.born) = es.toList := by rw [List.filter_eq_self]; simp
      rw [this]; exact he
    · rintro k (rfl | rfl)
      · exact .inl ((h1.1 _).2 rfl)
      · exact .inr (Nat.le_refl _)

theorem nextM [hC : CtxOk C] {r b : Nat} {encK : κ → Value} {encV : α → Value} {M left : List (κ × α)} {cur : Option (κ × α)} {ty : TypeId} {R : Value → List Chunk → Prop} (i : Nat) (hi : lget L i = some (mpi r b encK encV M cur left))
    (h0 : left = [] → R (.tuple #[.bool false]) L) (h1 : ∀ j p, left[j]? = some p → R (.tuple #[.bool true, encK p.1, encV p.2]) (setL L i (mpi r b encK encV M (some p) (left.eraseIdx j)))) : Does C L (Instr.next (.pointer (some ⟨r, 0, none⟩)) false ty) R := by
  intro w hw
  obtain ⟨T, hT, hrb, es, clock, seen, hb, hs, he, hr, hleft, hcur⟩ := hw.mem hi
  have hgb := gobj (P := C.P) hb
  have hgr : (getObj r).run C.P w = .ok (.mapIter (some b) clock seen clock) w := by simp [getObj, Sem.run, hr]
  have hltr := (Array.getElem?_eq_some_iff.1 hr).1
  have hltb := (Array.getElem?_eq_some_iff.1 hb).1
  obtain ⟨hs1, hs2, hs3⟩ := (stamped_iff es clock).1 hs
  have hguard : (!seen.isEmpty && !es.isEmpty && es.all (·.born ≥ clock)) = false := by
    cases he0 : es.isEmpty with
    | true => simp
    | false =>
      have : es.all (·.born ≥ clock) = false := by
        rw [← Bool.not_eq_true, Array.all_eq_true]
        intro h
        have hz : 0 < es.size := by
          rcases Nat.eq_zero_or_pos es.size with h' | h'
          · simp [Array.isEmpty, h'] at he0
          · exact h'
        have h2 := h 0 hz
        have h3 := hs1 es[0] (by simp)
        simp at h2
        omega
      simp [this]
  have hold : (es.filter fun e => !seen.contains e.born).filter (fun x => decide (x.born < clock)) = es.filter fun e => !seen.contains e.born := by
    rw [Array.filter_eq_self]
    intro e hm
    have := hs1 e (by rw [Array.mem_filter] at hm; simpa using hm.1)
    simpa using this
  have hnew : (es.filter fun e => !seen.contains e.born).filter (fun x => decide (x.born ≥ clock)) = #[] := by
    rw [Array.filter_eq_empty_iff]
    intro e hm
    have := hs1 e (by rw [Array.mem_filter] at hm; simpa using hm.1)
    simp; omega
  have hrun : ∀ (res : Result Value), (Instr.next (.pointer (some ⟨r, 0, none⟩)) false ty).run C.P w = res → res = res := fun _ _ => rfl
  generalize hlf : (es.filter fun e => !seen.contains e.born) = lf at hold hnew
  have hlfl : lf.toList = es.toList.filter fun e => !seen.contains e.born := by rw [← hlf]; simp
  rw [← hlfl] at hleft
  by_cases hemp : lf.isEmpty = true
  · have hl0 : left = [] := by
      have := hleft.length
      have hz : lf.size = 0 := by simpa [Array.isEmpty] using hemp
      simp [hz] at this
      exact List.eq_nil_of_length_eq_zero this.symm
    refine ⟨.tuple #[.bool false], w, L, ?_, hw, h0 hl0⟩
    have hz : lf = #[] := by
      apply Array.eq_empty_of_size_eq_zero
      simpa [Array.isEmpty] using hemp
    simp only [Instr.next, Sem.run_bind, hgr, Result.andThen_ok, hgb, hguard, Bool.false_eq_true, if_false, hlf, hold, hnew, hz]
    simp [Question.forced]
  · have hemp' : lf.isEmpty = false := by simpa using hemp
    have hpos : 0 < lf.size := by
      rcases Nat.eq_zero_or_pos lf.size with h' | h'
      · simp [Array.isEmpty, h'] at hemp'
      · exact h'
    have hcand : ((if lf.isEmpty then #[none] else #[]) ++ (lf ++ #[]).map some : Array (Option MapEntry)) = lf.map some := by simp [hemp']
    -- whichever index is drawn
    have hdraw : ∃ (x : Nat) (w1 : World), (choose (.mapNext (lf.map some).size)).run C.P w = .ok x w1 ∧ x < lf.size ∧ w1.heap = w.heap ∧ w1.os = w.os ∧ w1.tape = w.tape ∧ w1.output = w.output := by
      rw [run_choose]
      split
      · exact ⟨0, w, rfl, hpos, rfl, rfl, rfl, rfl⟩
      · refine ⟨_, _, rfl, ?_, rfl, rfl, rfl, rfl⟩
        simp only [Question.cut, Array.size_map]
        exact Nat.mod_lt _ hpos
    obtain ⟨x, w1, hch, hx, e1, e2, e3, e4⟩ := hdraw
    have hxe : lf.toList[x]? = some lf[x] := by simp [hx]
    obtain ⟨p, hp, hp1, hp2⟩ := hleft.get hxe
    have hmem : lf[x] ∈ es.toList ∧ seen.contains lf[x].born = false := by
      have := List.mem_of_getElem? hxe
      rw [hlfl, List.mem_filter] at this
      exact ⟨this.1, by simpa using this.2⟩
    have hr1 : w1.heap[r]? = some (.mapIter (some b) clock seen clock) := by rw [e1]; exact hr
    have hset : (setObj r (.mapIter (some b) clock (seen.push lf[x].born) clock)).run C.P w1 = .ok () { w1 with heap := w1.heap.setIfInBounds r (.mapIter (some b) clock (seen.push lf[x].born) clock) } := by simp [setObj, Sem.run, hr1]
    refine ⟨_, { w1 with heap := w1.heap.setIfInBounds r (.mapIter (some b) clock (seen.push lf[x].born) clock) }, _, ?_, hw.turnAt hi (fun S1 hS1 hd1 => ?_), h1 x p hp⟩
    · have hget : (lf.map some)[x]? = some (some lf[x]) := by simp [hx]
      simp only [Instr.next, Sem.run_bind, hgr, Result.andThen_ok, hgb, hguard, Bool.false_eq_true, if_false, hlf, hold, hnew, hcand, hch, hget, hset, Sem.run_pure, hp1, hp2]
    · refine Inv.one (T := S1) ⟨e2, e3, e4, by simp [e1], fun k _ hk => ?_⟩ ⟨hS1.1, hrb, es, clock, seen.push lf[x].born, ?_, hs, he, ?_, ?_, ?_⟩ fun _ h => .inl h
      · have : r ≠ k := fun h => hk ((hS1.1 k).2 (.inr h.symm))
        simp [this, e1]
      · simp [hrb, e1, hb]
      · simp [e1, hltr]
      · -- what is left
        have hfil : es.toList.filter (fun e => !(seen.push lf[x].born).contains e.born) = lf.toList.eraseIdx x := by
          have hnd : (es.toList.map (·.born)).Nodup := hs2
          have e5 : es.toList.filter (fun e => !(seen.push lf[x].born).contains e.born) = lf.toList.filter (fun e => !(e.born == lf[x].born)) := by
            rw [hlfl, List.filter_filter]
            apply List.filter_congr
            intro e _
            simp [Array.contains_push, Bool.not_or, Bool.and_comm]
            rfl
          rw [e5]
          have hndl : (lf.toList.map (·.born)).Nodup := by rw [hlfl]; exact hnd.sublist (List.Sublist.map _ List.filter_sublist)
          have key : ∀ (l : List MapEntry) (x : Nat) (y : MapEntry), l[x]? = some y → (l.map (·.born)).Nodup → l.filter (fun e => !(e.born == y.born)) = l.eraseIdx x := by
            intro l
            induction l with
            | nil => intro x y h; simp at h
            | cons z l ih =>
              intro x y hx hn
              simp only [List.map_cons, List.nodup_cons] at hn
              cases x with
              | zero =>
                simp at hx
                subst hx
                simp only [List.eraseIdx_zero, List.tail_cons]
                rw [List.filter_cons, if_neg (by simp), List.filter_eq_self]
                intro e he
                have : e.born ≠ z.born := fun h => hn.1 (List.mem_map.2 ⟨e, he, h⟩)
                simpa using this
              | succ x =>
                have hx' : l[x]? = some y := by simpa using hx
                have hne : z.born ≠ y.born := fun h => hn.1 (List.mem_map.2 ⟨y, List.mem_of_getElem? hx', h.symm⟩)
                simp only [List.eraseIdx_cons_succ]
                rw [List.filter_cons, if_pos (by simpa using hne), ih x y hx' hn.2]
          exact key lf.toList x lf[x] hxe hndl
        rw [hfil]
        have hl' : List.map (fun e => (e.key, e.val)) lf.toList = List.map (fun p => (encK p.1, encV p.2)) left := hleft
        unfold Ents
        rw [map_erase, map_erase, hl']
      · rintro q hq
        cases hq
        exact ⟨lf[x], hmem.1, by simp, hp1, hp2⟩

theorem entryM [hC : CtxOk C] {r b : Nat} {encK : κ → Value} {encV : α → Value} {M left : List (κ × α)} {p : κ × α} (i : Nat) (hi : lget L i = some (mpi r b encK encV M (some p) left)) :
    RunsTo C L (Instr.entry (.pointer (some ⟨r, 0, none⟩))) (.tuple #[encK p.1, encV p.2]) := by
  intro w hw
  obtain ⟨T, hT, hrb, es, clock, seen, hb, hs, he, hr, hleft, hcur⟩ := hw.mem hi
  obtain ⟨e, hm, hback, hk, hv⟩ := hcur p rfl
  have hgb := gobj (P := C.P) hb
  have hgr : (getObj r).run C.P w = .ok (.mapIter (some b) clock seen clock) w := by simp [getObj, Sem.run, hr]
  obtain ⟨hs1, hs2, hs3⟩ := (stamped_iff es clock).1 hs
  have hfind : es.find? (fun x => x.born == e.born) = some e := by
    rw [← Array.find?_toList]
    have key : ∀ (l : List MapEntry), e ∈ l → (l.map (·.born)).Nodup → l.find? (fun x => x.born == e.born) = some e := by
      intro l
      induction l with
      | nil => intro h; cases h
      | cons z l ih =>
        intro h hn
        simp only [List.map_cons, List.nodup_cons] at hn
        rcases List.mem_cons.1 h with rfl | h
        · rw [List.find?_cons]; simp
        · have hne : z.born ≠ e.born := fun h' => hn.1 (List.mem_map.2 ⟨e, h, h'.symm⟩)
          rw [List.find?_cons, show (z.born == e.born) = false from beq_eq_false_iff_ne.2 hne]
          exact ih h hn.2
    exact key _ hm hs2
  simp only [Instr.entry, Sem.run_bind, hgr, Result.andThen_ok, hback, hgb, hfind, Sem.run_pure, hk, hv]
  simp [hk, hv]

theorem mpi_end {r b : Nat} {encK : κ → Value} {encV : α → Value} {M left : List (κ × α)} {cur : Option (κ × α)} {L : List Chunk} : Ent (mpi r b encK encV M cur left :: L) (mp b encK encV M :: L) :=
  .conv fun w T ⟨h1, _, es, clock, seen, hb, hs, he, _⟩ => ⟨fun k => k = b, ⟨fun _ => Iff.rfl, es, clock, hb, hs, he⟩, fun k hk => (h1 k).2 (.inl hk)⟩

theorem lookS [hC : CtxOk C] {t kt et : TypeId} {b : Nat} {encK : κ → Value} {encV : α → Value} {M : List (κ × α)} {ti : TyI} (z : Value) {k : κ} {a : α} (i : Nat) (h : lk M k = some a) (hl : KeyLaw C.P kt encK) (hi : lget L i = some (mp b encK encV M))
    (hti : tget C.tab t = some ti) (hk : ti.k = .map kt et) (hz : ∀ w, (zeroValue et).run C.P w = .ok z w) : RunsTo C L (Instr.lookup t (.map (some b)) (encK k) true) (.tuple #[encV a, .bool true]) := by
  have := lookM i k hl hi hti hk hz true
  rw [h] at this; exact this
theorem lookN [hC : CtxOk C] {t kt et : TypeId} {b : Nat} {encK : κ → Value} {encV : α → Value} {M : List (κ × α)} {ti : TyI} {z : Value} {k : κ} (i : Nat) (h : lk M k = none) (hl : KeyLaw C.P kt encK) (hi : lget L i = some (mp b encK encV M))
    (hti : tget C.tab t = some ti) (hk : ti.k = .map kt et) (hz : ∀ w, (zeroValue et).run C.P w = .ok z w) : RunsTo C L (Instr.lookup t (.map (some b)) (encK k) true) (.tuple #[z, .bool false]) := by
  have := lookM i k hl hi hti hk hz true
  rw [h] at this; exact this
theorem lookS' [hC : CtxOk C] {t kt et : TypeId} {b : Nat} {encK : κ → Value} {encV : α → Value} {M : List (κ × α)} {ti : TyI} (z : Value) {k : κ} {a : α} (i : Nat) (h : lk M k = some a) (hl : KeyLaw C.P kt encK) (hi : lget L i = some (mp b encK encV M))
    (hti : tget C.tab t = some ti) (hk : ti.k = .map kt et) (hz : ∀ w, (zeroValue et).run C.P w = .ok z w) : RunsTo C L (Instr.lookup t (.map (some b)) (encK k) false) (encV a) := by
  have := lookM i k hl hi hti hk hz false
  rw [h] at this; exact this
theorem lookN' [hC : CtxOk C] {t kt et : TypeId} {b : Nat} {encK : κ → Value} {encV : α → Value} {M : List (κ × α)} {ti : TyI} {z : Value} {k : κ} (i : Nat) (h : lk M k = none) (hl : KeyLaw C.P kt encK) (hi : lget L i = some (mp b encK encV M))
    (hti : tget C.tab t = some ti) (hk : ti.k = .map kt et) (hz : ∀ w, (zeroValue et).run C.P w = .ok z w) : RunsTo C L (Instr.lookup t (.map (some b)) (encK k) false) z := by
  have := lookM i k hl hi hti hk hz false
  rw [h] at this; exact this

end
end Go.X

/- Values of struct type: their equality, and maps whose keys they are. -/
namespace Go.X
set_option linter.unusedVariables false
set_option linter.unusedSimpArgs false

theorem run_eqFields_one {P : Program} {w : World} {d : Nat} {xs ys : Array Value} {f : Field} {fs : List Field} {a b : Value} {r r' : Bool} (hn : (f.name ≠ "_")) (pa : (part f.type xs f.offset).run P w = .ok a w) (pb : (part f.type ys f.offset).run P w = .ok b w)
    (he : (Op.equalIn d f.type a b).run P w = .ok r w) (hr : (Op.eqFields d xs ys fs).run P w = .ok r' w) : (Op.eqFields d xs ys (f :: fs)).run P w = .ok (r && r') w := by
  simp only [Op.eqFields, hn, if_true, Sem.run_bind, pa, pb, he, Result.andThen_ok, ne_eq, not_false_eq_true]
  cases r with
  | true => simpa using hr
  | false => simp

/-- A field of a plain type. -/
theorem run_eqFields_int {P : Program} {w : World} {d : Nat} {xs ys : Array Value} {f : Field} {fs : List Field} {k k' : IntKind} {a b : Int} {r' : Bool} (hn : (f.name == "_") = false) (hu : P.underlying f.type = some (.int k')) (pa : xs[f.offset]? = some (.int k a)) (pb : ys[f.offset]? = some (.int k b))
    (hr : (Op.eqFields (d + 1) xs ys fs).run P w = .ok r' w) : (Op.eqFields (d + 1) xs ys (f :: fs)).run P w = .ok (a == b && r') w := by
  have hp : P.plainKey f.type = true := by simp [Program.plainKey, hu]
  exact run_eqFields_one (by simpa using hn) (run_part_plain w hp pa) (run_part_plain w hp pb) (run_equalIn_int w d f.type k k' a b hu) hr
theorem run_eqFields_str {P : Program} {w : World} {d : Nat} {xs ys : Array Value} {f : Field} {fs : List Field} {a b : ByteArray} {r' : Bool} (hn : (f.name == "_") = false) (hu : P.underlying f.type = some .string) (pa : xs[f.offset]? = some (.string a)) (pb : ys[f.offset]? = some (.string b))
    (hr : (Op.eqFields (d + 1) xs ys fs).run P w = .ok r' w) : (Op.eqFields (d + 1) xs ys (f :: fs)).run P w = .ok (a.toList == b.toList && r') w := by
  have hp : P.plainKey f.type = true := by simp [Program.plainKey, hu]
  exact run_eqFields_one (by simpa using hn) (run_part_plain w hp pa) (run_part_plain w hp pb) (run_equalIn_string w d f.type a b hu) hr
theorem run_eqFields_nil {P : Program} {w : World} {d : Nat} {xs ys : Array Value} : (Op.eqFields d xs ys []).run P w = .ok true w := by simp [Op.eqFields]

theorem run_eql_agg {P : Program} {w : World} {t : TypeId} {x y : Operand} {xs ys : Array Value} {fs : List Field} {r : Bool} (ht : P.underlying t = some (.struct (P.fieldsOf t))) (hp : P.stoodInHeld t = false) (hg : P.eqGuardType P.depth t = false) (hf : (P.fieldsOf t).toList = fs)
    (h : (Op.eqFields 9999 xs ys fs).run P w = .ok r w) : (do eqGuard .eql t x y (.agg xs) (.agg ys); binOp .eql t (.agg xs) (.agg ys) : Sem Value).run P w = .ok (.bool r) w := by
  rw [Sem.run_bind, run_eqGuard_agg _ _ _ _ _ _ _ hg, Result.andThen_ok, run_eql_struct, show (10000 : Nat) = 9999 + 1 from rfl, run_equalIn_agg _ _ _ _ _ ht hp, hf, h]
  rfl
theorem run_neq_agg {P : Program} {w : World} {t : TypeId} {x y : Operand} {xs ys : Array Value} {fs : List Field} {r : Bool} (ht : P.underlying t = some (.struct (P.fieldsOf t))) (hp : P.stoodInHeld t = false) (hg : P.eqGuardType P.depth t = false) (hf : (P.fieldsOf t).toList = fs)
    (h : (Op.eqFields 9999 xs ys fs).run P w = .ok r w) : (do eqGuard .neq t x y (.agg xs) (.agg ys); binOp .neq t (.agg xs) (.agg ys) : Sem Value).run P w = .ok (.bool (!r)) w := by
  rw [Sem.run_bind, run_eqGuard_agg _ _ _ _ _ _ _ hg, Result.andThen_ok, run_neq_struct, show (10000 : Nat) = 9999 + 1 from rfl, run_equalIn_agg _ _ _ _ _ ht hp, hf, h]
  rfl

section
variable {κ : Type} [DecidableEq κ] {P : Program} {kt : TypeId} {encK : κ → Value}

theorem findAsking_first (w : World) (heq : ∀ a b : κ, (Op.equal kt (encK a) (encK b)).run P w = .ok (decide (a = b)) w) (hinj : ∀ a b, encK a = encK b → a = b) (k : κ) :
    ∀ (l : List MapEntry) (i : Nat), (∀ x ∈ l, ∃ k', x.key = encK k') →
      (∃ j e, l[j]? = some e ∧ e.key = encK k ∧ (∀ j' e', j' < j → l[j']? = some e' → e'.key ≠ encK k) ∧ (Instr.findAsking kt (encK k) l i).run P w = .ok (some (i + j, e.val)) w) ∨
      ((∀ x ∈ l, x.key ≠ encK k) ∧ (Instr.findAsking kt (encK k) l i).run P w = .ok none w)
  | [], i, _ => .inr ⟨by simp, by simp [Instr.findAsking]⟩
  | e :: es, i, hall => by
    obtain ⟨k', hk'⟩ := hall e (by simp)
    have hr : (Op.equal kt (encK k) e.key).run P w = .ok (decide (k = k')) w := by rw [hk']; exact heq k k'
    by_cases hkk : k = k'
    · refine .inl ⟨0, e, rfl, by rw [hk', hkk], fun j' _ h => by omega, ?_⟩
      have hr' : (Op.equal kt (encK k) e.key).run P w = .ok true w := by rw [hr]; simp [hkk]
      simp [Instr.findAsking, hr']
    · have hne : e.key ≠ encK k := fun h => hkk (hinj _ _ (by rw [← h, hk']))
      have hstep : (Instr.findAsking kt (encK k) (e :: es) i).run P w = (Instr.findAsking kt (encK k) es (i + 1)).run P w := by simp [Instr.findAsking, hr, hkk]
      rw [hstep]
      rcases findAsking_first w heq hinj k es (i + 1) (fun y hy => hall y (by simp [hy])) with ⟨j, e', h1, h2, h3, h4⟩ | ⟨h1, h2⟩
      · refine .inl ⟨j + 1, e', by simpa using h1, h2, fun j' e'' hlt hj' => ?_, by rw [h4]; simp [Nat.add_assoc, Nat.add_comm 1 j]⟩
        cases j' with
        | zero => simp at hj'; subst hj'; exact hne
        | succ j' => exact h3 j' e'' (by omega) (by simpa using hj')
      · refine .inr ⟨fun y hy => ?_, h2⟩
        rcases List.mem_cons.1 hy with rfl | hy
        · exact hne
        · exact h1 y hy

theorem KeyLaw.of_wide (hwide : (match P.underlying kt with | some (.array _ _) | some (.struct _) => true | _ => false) = true) (hinj : ∀ a b, encK a = encK b → a = b)
    (heq : ∀ w (a b : κ), (Op.equal kt (encK a) (encK b)).run P w = .ok (decide (a = b)) w) (hcheck : ∀ w e k, (Instr.checkKey e 10000 kt (encK k)).run P w = .ok () w) (hstay : ∀ w k, (Instr.keyThatStays (encK k) (encK k)).run P w = .ok (encK k) w) : KeyLaw P kt encK where
  inj := hinj
  check := hcheck
  stay := hstay
  find w k l hl := by
    rw [run_findKey_eq w hwide]
    have := findAsking_first w (heq w) hinj k l 0 hl
    simpa using this
end
end Go.X

/- Slices that one owns: they grow, are cut, are handed over to be read. -/
namespace Go.X
set_option linter.unusedVariables false
set_option linter.unusedSimpArgs false

theorem flat_get {α : Type} {sz : Nat} {enc : α → List Value} : ∀ {xs : List α} {i j : Nat} {x : α}, (∀ x ∈ xs, (enc x).length = sz) → xs[i]? = some x → j < sz → (xs.flatMap enc)[i * sz + j]? = (enc x)[j]?
  | [], i, j, x, _, h, _ => by simp at h
  | y :: ys, 0, j, x, hl, h, hj => by
    simp at h; subst h
    have := hl y (by simp)
    simp only [List.flatMap_cons, Nat.zero_mul, Nat.zero_add]
    rw [List.getElem?_append_left (by omega)]
  | y :: ys, i + 1, j, x, hl, h, hj => by
    have hy := hl y (by simp)
    have ih := flat_get (xs := ys) (i := i) (fun x hx => hl x (by simp [hx])) (by simpa using h) hj
    simp only [List.flatMap_cons]
    rw [List.getElem?_append_right (by rw [hy, Nat.succ_mul]; omega), hy, ← ih]
    congr 1
    rw [Nat.succ_mul]; omega
theorem flat_len {α : Type} {sz : Nat} {enc : α → List Value} : ∀ {xs : List α}, (∀ x ∈ xs, (enc x).length = sz) → (xs.flatMap enc).length = xs.length * sz
  | [], _ => by simp
  | y :: ys, hl => by
    have := flat_len (xs := ys) (fun x hx => hl x (by simp [hx]))
    simp only [List.flatMap_cons, List.length_append, this, hl y (by simp), List.length_cons, Nat.succ_mul]
    omega

/-- The slice (a, xs.length, cap) is one's own: a whole block, or nil. -/
def own {α : Type} (a : Option Addr) (cap : Nat) (e : TypeId) (sz : Nat) (enc : α → List Value) (xs : List α) : Chunk where
  sat w S := (∀ k, S k ↔ (Value.slice a xs.length cap).ownBlock = some k) ∧ w.ownsRow 0 e sz (.slice a xs.length cap) xs.length (xs.flatMap enc)
  stab {w w' S} h hk := ⟨h.1, h.2.1, h.2.2.imp_right fun ⟨g, c, cur, he, hb, hg, r⟩ => ⟨g, c, cur, he, hb, (hk g ((h.1 g).2 (by rw [he]; rfl))).trans hg, r⟩⟩
  dom {w S b} h hb := (h.2.lt b ((h.1 b).1 hb)).2

theorem own_nil {α : Type} {e : TypeId} {sz : Nat} {enc : α → List Value} {L : List Chunk} : Ent L (own none 0 e sz enc [] :: L) :=
  .free fun w => ⟨fun k => by simp [Value.ownBlock], World.ownsRow_nil _ _ _ _⟩

section
variable {α : Type} {C : Ctx} {L : List Chunk} {e : TypeId} {sz cap : Nat} {enc : α → List Value} {xs : List α}

theorem own_at {w : World} {T : FP} {a : Option Addr} {i : Nat} {x : α} (h : (own a cap e sz enc xs).sat w T) (hi : xs[i]? = some x) : ∃ g cur, a = some ⟨g, 0, none⟩ ∧ w.heap[g]? = some (.cells cur e (0, 0)) ∧ cur.toList.take (xs.length * sz) = xs.flatMap enc := by
  obtain ⟨_, _, h | ⟨g, c, cur, he, _, hg, _, _, _, ht⟩⟩ := h
  · simp at h; obtain ⟨_, h2⟩ := h
    have : xs = [] := h2
    subst this; simp at hi
  · cases he; exact ⟨g, cur, rfl, hg, ht⟩

theorem own_cell {w : World} {T : FP} {g : Nat} {i j : Nat} {x : α} {v : Value} (h : (own (some ⟨g, 0, none⟩) cap e sz enc xs).sat w T) (hl : ∀ x ∈ xs, (enc x).length = sz) (hi : xs[i]? = some x) (hj : (enc x)[j]? = some v) : w.cell? ⟨g, i * sz + j, none⟩ = some v := by
  obtain ⟨g', cur, he, hg, ht⟩ := own_at h hi
  cases he
  have hjs : j < sz := by
    have := hl x (List.mem_of_getElem? hi)
    rcases Nat.lt_or_ge j sz with h | h
    · exact h
    · rw [List.getElem?_eq_none (by omega)] at hj; cases hj
  have hf := flat_get hl hi hjs
  rw [hj, ← ht, List.getElem?_take] at hf
  split at hf
  · simp only [World.cell?, hg, Bool.false_eq_true, if_false]
    simpa using hf
  · cases hf

theorem Rdb.own {g i j off : Nat} {x : α} {v : Value} (k : Nat) (hk : lget L k = some (X.own (some ⟨g, 0, none⟩) cap e sz enc xs)) (hl : ∀ x ∈ xs, (enc x).length = sz) (hi : xs[i]? = some x) (hj : (enc x)[j]? = some v) (hoff : off = i * sz + j) : Rdb C L g off v := by
  intro w hw
  obtain ⟨T, hT⟩ := hw.mem hk
  rw [hoff]
  exact own_cell hT hl hi hj

/-- Load a field of an element. -/
theorem ldO [hC : CtxOk C] {t : TypeId} {g off : Nat} {x : α} {v : Value} (k i j : Nat) (hk : lget L k = some (own (some ⟨g, 0, none⟩) cap e sz enc xs)) (hl : ∀ x ∈ xs, (enc x).length = sz)
    (hi : xs[i]? = some x) (hj : lget (enc x) j = some v) (ht : aggOf C.tab t = some false) (hoff : off = i * sz + j) : RunsTo C L (Instr.loadAt t (.pointer (some ⟨g, off, none⟩))) v :=
  .load1 ht (.own k hk hl hi (by rw [← lget_eq]; exact hj) hoff)
/-- Load a whole element. -/
theorem ldOA [hC : CtxOk C] {t : TypeId} {g off : Nat} {x : α} {ti : TyI} (k i : Nat) (hk : lget L k = some (own (some ⟨g, 0, none⟩) cap e sz enc xs)) (hl : ∀ x ∈ xs, (enc x).length = sz)
    (hi : xs[i]? = some x) (ht : aggOf C.tab t = some true) (hti : tget C.tab t = some ti) (hn : (enc x).length = ti.size) (hoff : off = i * sz) : RunsTo C L (Instr.loadAt t (.pointer (some ⟨g, off, none⟩))) (.agg ⟨enc x⟩) :=
  .loadN ht hti hn fun j v hj => .own k hk hl hi hj (by omega)

/-- What is owned may be read. -/
theorem RO.own {w : World} {S : FP} {a : Option Addr} (h : RO w S (X.own a cap e sz enc xs)) (hl : ∀ x ∈ xs, (enc x).length = sz) (hsz : 0 < sz) : RO w S (roS a sz enc xs) := by
  obtain ⟨T, hT, hd⟩ := h
  refine ⟨fun k => ∃ b, a = some b ∧ k = b.block ∧ xs ≠ [], ⟨fun k => Iff.rfl, fun _ => hsz, hl, fun hne => ?_⟩, ?_⟩
  · obtain ⟨x, hx⟩ : ∃ x, xs[0]? = some x := by cases xs with | nil => exact absurd rfl hne | cons x xs => exact ⟨x, rfl⟩
    obtain ⟨g, cur, rfl, _, _⟩ := own_at hT hx
    exact ⟨g, 0, rfl, fun i x hi j v hj => by rw [Nat.zero_add]; exact own_cell hT hl hi hj⟩
  · rintro k ⟨b, rfl, rfl, hne⟩
    exact hd _ ((hT.1 _).2 rfl)

theorem RO.conv {w : World} {S : FP} {c d : Chunk} (h : RO w S c) (hc : ∀ T, c.sat w T → ∃ T', d.sat w T' ∧ ∀ b, T' b → T b) : RO w S d := by
  obtain ⟨T, hT, hd⟩ := h
  obtain ⟨T', h1, h2⟩ := hc T hT
  exact ⟨T', h1, fun b hb => hd b (h2 b hb)⟩

/-- A whole block, read as a slice. -/
theorem RO.ptS {w : World} {S : FP} {b : Nat} {cs : List Value} (h : RO w S (pt b cs e)) (hl : ∀ x ∈ xs, (enc x).length = sz) (hsz : 0 < sz) (hcs : cs = xs.flatMap enc) : RO w S (roS (some ⟨b, 0, none⟩) sz enc xs) := by
  refine h.conv fun T ⟨h1, h2⟩ => ⟨fun k => ∃ a, some (⟨b, 0, none⟩ : Addr) = some a ∧ k = a.block ∧ xs ≠ [], ⟨fun k => Iff.rfl, fun _ => hsz, hl, fun hne => ⟨b, 0, rfl, fun i x hi j v hj => ?_⟩⟩, ?_⟩
  · rw [Nat.zero_add, cell_of_block h2, hcs, flat_get hl hi]
    · exact hj
    · have := hl x (List.mem_of_getElem? hi)
      rcases Nat.lt_or_ge j sz with h | h
      · exact h
      · rw [List.getElem?_eq_none (by omega)] at hj; cases hj
  · rintro k ⟨a, he, rfl, _⟩
    cases he
    exact (h1 _).2 rfl

theorem roS_take {w : World} {S : FP} {A : Option Addr} (k : Nat) (h : RO w S (roS A sz enc xs)) : RO w S (roS A sz enc (xs.take k)) := by
  refine h.conv fun T ⟨h1, h2, h3, h4⟩ => ?_
  have hne : xs.take k ≠ [] → xs ≠ [] := fun h he => h (by simp [he])
  refine ⟨fun b => ∃ a, A = some a ∧ b = a.block ∧ xs.take k ≠ [], ⟨fun _ => Iff.rfl, fun h => h2 (hne h), fun x hx => h3 x (List.mem_of_mem_take hx), fun h => ?_⟩, ?_⟩
  · obtain ⟨b, o, rfl, hc⟩ := h4 (hne h)
    refine ⟨b, o, rfl, fun i x hi => hc i x ?_⟩
    rw [List.getElem?_take] at hi
    split at hi
    · exact hi
    · cases hi
  · rintro b ⟨a, rfl, rfl, h⟩
    exact (h1 _).2 ⟨a, rfl, rfl, hne h⟩

theorem roS_nil {w : World} {S : FP} {A : Option Addr} : RO w S (roS A sz enc ([] : List α)) :=
  ⟨fun _ => False, ⟨fun k => by simp, by simp, by simp, by simp⟩, fun _ h => h.elim⟩

/-! ### slicing -/
/-- A slice is cut behind its first j elements. -/
theorem slHi [hC : CtxOk C] {t : TypeId} {a : Option Addr} {n c : Nat} {k : IntKind} {i : Int} {et : TypeId} {ti te : TyI} (j : Nat) (hij : i = (j : Int)) (hj : j ≤ c) (hti : tget C.tab t = some ti) (hk : ti.k = .slice et) (hte : tget C.tab et = some te) :
    RunsTo C L (Instr.sliceAt t (.slice a n c) none (some (.int k i)) none) (.slice a j c) := by
  intro w hw
  obtain ⟨d, hd, hkd⟩ := (hC.tab.get hti).und
  rw [hk] at hkd
  have hd' : C.P.underlying t = some (.slice et) := by
    cases d <;> simp [kOk] at hkd
    subst hkd; exact hd
  subst hij
  have hsz := run_sizeOf' (w := w) (hC.tab.get hte)
  have hle : (0 : Int) ≤ j := by omega
  have hjc : (j : Int) ≤ c := by omega
  have hadd : ∀ x : Addr, x.add 0 = x := fun x => by simp [Addr.add]
  have hmap : Option.map (fun x : Addr => x.add 0) a = a := by cases a <;> simp [hadd]
  simp [Instr.sliceAt, Instr.slice, run_underlying' hd', Instr.sliceBounds, Instr.sliceBound, asIntOf, hj, hsz, hmap]

theorem own_take {a : Option Addr} (j : Nat) (hj : j ≤ xs.length) (hl : ∀ x ∈ xs, (enc x).length = sz) : Ent (own a cap e sz enc xs :: L) (own a cap e sz enc (xs.take j) :: L) := by
  refine .conv fun w T ⟨h1, h2, h3⟩ => ⟨T, ⟨fun k => (h1 k).trans ?_, ?_, ?_⟩, fun _ h => h⟩
  · cases a <;> simp [Value.ownBlock]
  · exact flat_len fun x hx => hl x (List.mem_of_mem_take hx)
  · rcases h3 with ⟨he, h0⟩ | ⟨g, c, cur, he, hb, hg, hn, hm, hs, ht⟩
    · left
      have : xs = [] := List.eq_nil_of_length_eq_zero h0
      subst this
      simpa using he
    · right
      cases he
      have hlen : (xs.take j).length = j := by simp; omega
      refine ⟨g, cap, cur, by rw [hlen], hb, hg, by omega, hm, hs, ?_⟩
      have hfl := flat_len (xs := xs.take j) (fun x hx => hl x (List.mem_of_mem_take hx))
      have hflat : (xs.take j).flatMap enc = (xs.flatMap enc).take (j * sz) := by
        have h' : xs.flatMap enc = (xs.take j).flatMap enc ++ (xs.drop j).flatMap enc := by rw [← List.flatMap_append, List.take_append_drop]
        rw [h', List.take_left' (by rw [hfl, hlen])]
      rw [hflat, ← ht, List.take_take, hlen]
      congr 1
      exact (Nat.min_eq_left (Nat.mul_le_mul_right _ hj)).symm

/-! ### append -/
/-- A new element (its cells lie in block vb, all of it) is appended to what is owned. -/
theorem appO2 [hC : CtxOk C] {t ty : TypeId} {a : Option Addr} {n : Nat} {R : Value → List Chunk → Prop} {ti te : TyI} {vb c : Nat} {cs : List Value} {ty' : TypeId} (k j : Nat) (x : α) (hk : lget L k = some (own a cap e sz enc xs)) (hj : lget L j = some (pt vb cs ty'))
    (hn : n = xs.length) (hcs : cs = enc x) (hlen : (enc x).length = sz) (hsz : 0 < sz) (h1 : (enc x).all Value.oneCell' = true) (hti : tget C.tab t = some ti) (hkk : ti.k = .slice e) (hte : tget C.tab e = some te) (hs : te.size = sz) (hz0 : te.zero.length = sz)
    (hml : xs.length + 1 ≤ maxLen) (hbb : (xs.length + 1) * te.bytes ≤ 140737488355328) (hR : ∀ g cap', xs.length + 1 ≤ cap' → R (.slice (some ⟨g, 0, none⟩) (xs.length + 1) cap') (setL L k (own (some ⟨g, 0, none⟩) cap' e sz enc (xs ++ [x])))) :
    Does C L (Builtin.append_ ⟨[t, t]⟩ ty ⟨[.slice a n cap, .slice (some ⟨vb, 0, none⟩) 1 c]⟩) R := by
  intro w hw
  subst hn
  obtain ⟨T, hT1, hT2⟩ := hw.mem hk
  obtain ⟨T', hT'1, hb⟩ := hw.mem hj
  obtain ⟨d, hd, hkd⟩ := (hC.tab.get hti).und
  rw [hkk] at hkd
  have hd' : C.P.underlying t = some (.slice e) := by
    cases d <;> simp [kOk] at hkd
    subst hkd; exact hd
  obtain ⟨d2, inf, z, hu, hinf, hisz, hiby, hz, hzc, _⟩ := hC.tab.get hte
  obtain ⟨g, cap', w', hr, ho, hg, hlie, hlt⟩ := run_append_lies (P := C.P) w t ty 0 e inf z sz te.bytes hd' hinf hz (hisz.trans hs) hiby (by rw [← hz0, ← hzc]; simp) hsz (.slice a xs.length cap) xs.length (xs.flatMap enc) hT2
    ⟨vb, 0, none⟩ 1 c (enc x) (by simp [hlen]) (fun i u hu => by rw [Addr.add_none, Nat.zero_add, cell_of_block hb, hcs]; exact hu) (List.all_eq_true.1 h1) Nat.one_pos hml hbb (Nat.zero_le _) w.heap.size rfl
  · have hcap : xs.length + 1 ≤ cap' := by
      rcases ho.2 with ⟨_, h0⟩ | ⟨_, _, _, he, _, _, hnc, _⟩
      · omega
      · cases he; exact hnc
    refine ⟨_, w', _, hr, hw.turnAt (d := own (some ⟨g, 0, none⟩) cap' e sz enc (xs ++ [x])) hk (fun S1 hS1 hd1 => ?_), hR g cap' hcap⟩
    refine Inv.one (T := fun k => k = g) ⟨hg.os, hg.tape, hg.output, hg.size, fun b hb hn => hg.block b hb fun he => hn ((hS1.1 b).2 he.symm)⟩ ⟨fun k => ?_, ?_⟩ fun b hb => ?_
    · simp [Value.ownBlock, eq_comm]
    · have hlx : (xs ++ [x]).length = xs.length + 1 := by simp
      rw [hlx, List.flatMap_append]
      simpa using ho
    · subst hb
      rcases hlie with h | h
      · exact .inl ((hS1.1 _).2 h)
      · exact .inr (by omega)
theorem appO [hC : CtxOk C] {t ty : TypeId} {a : Option Addr} {n : Nat} {R : Value → List Chunk → Prop} {ti te : TyI} {vb c : Nat} {cs : List Value} {ty' : TypeId} (k j : Nat) (x : α) (hk : lget L k = some (own a cap e sz enc xs)) (hj : lget L j = some (pt vb cs ty'))
    (hn : n = xs.length) (hcs : cs = enc x) (hlen : (enc x).length = sz) (hsz : 0 < sz) (h1 : (enc x).all Value.oneCell' = true) (hti : tget C.tab t = some ti) (hkk : ti.k = .slice e) (hte : tget C.tab e = some te) (hs : te.size = sz) (hz0 : te.zero.length = sz)
    (hbound : xs.length + 1 ≤ 2 ^ 31) (hby : te.bytes ≤ 2 ^ 12) (hR : ∀ g cap', xs.length + 1 ≤ cap' → R (.slice (some ⟨g, 0, none⟩) (xs.length + 1) cap') (setL L k (own (some ⟨g, 0, none⟩) cap' e sz enc (xs ++ [x])))) :
    Does C L (Builtin.append_ ⟨[t, t]⟩ ty ⟨[.slice a n cap, .slice (some ⟨vb, 0, none⟩) 1 c]⟩) R :=
  appO2 k j x hk hj hn hcs hlen hsz h1 hti hkk hte hs hz0 (by simp [maxLen]; omega) (Nat.le_trans (Nat.mul_le_mul hbound hby) (by decide)) hR
end
end Go.X

/- Slices written out; library calls by the kit's contracts. -/
namespace Go.X
set_option linter.unusedVariables false
set_option linter.unusedSimpArgs false

/-- The parts, each put over its place. -/
def bldL (sz : Nat) : List Value → List (Nat × Value) → Option (List Value)
  | cs, [] => some cs
  | cs, (i, v) :: r => match Nat.beq (cellsL v).length sz && Nat.ble (i * sz + sz) cs.length with
    | true => bldL sz (over cs (i * sz) (cellsL v)) r
    | false => none

theorem fill_bld {sz : Nat} : ∀ (parts : List (Nat × Value)) (cs out : List Value), bldL sz cs parts = some out → Instr.fill (fun i => some (i * sz, sz)) cs.toArray parts = some out.toArray
  | [], cs, out, h => by simp [bldL] at h; subst h; rfl
  | (i, v) :: r, cs, out, h => by
    simp only [bldL] at h
    split at h
    · rename_i hb
      simp only [Bool.and_eq_true] at hb
      have h1 : (cellsL v).length = sz := Nat.eq_of_beq_eq_true hb.1
      have h2 : i * sz + sz ≤ cs.length := Nat.le_of_ble_eq_true hb.2
      simp only [Instr.fill]
      have hsz : v.cells.size = sz := by rw [cellsL_eq]; simpa using h1
      rw [if_neg (by simp [hsz]; omega)]
      have hfold := over_foldl (cellsL v) cs (i * sz) 0
      rw [cellsL_eq v, ← Array.foldl_toList, Array.toList_zipIdx]
      show Instr.fill _ (((cellsL v).zipIdx).foldl (fun cs (x : Value × Nat) => cs.setIfInBounds (i * sz + x.2) x.1) cs.toArray) r = _
      rw [hfold]
      exact fill_bld r _ out h
    · cases h

/-- A slice is written out. -/
theorem bldS {C : Ctx} [hC : CtxOk C] {L : List Chunk} {t et : TypeId} {len : Nat} {l : List (Nat × Value)} {R : Value → List Chunk → Prop} {ti te : TyI} {cs : List Value} (cs0 : List Value) (hti : tget C.tab t = some ti) (hk : ti.k = .slice et) (hte : tget C.tab et = some te)
    (hsz : Nat.ble (len * te.size) (2 ^ 24) = true) (hpos : Nat.beq (len * te.size) 0 = false) (h0 : (Array.range (len * te.size)).map (te.zero.toArray[· % te.zero.toArray.size]!) = cs0.toArray) (hf : bldL te.size cs0 l = some cs)
    (hR : ∀ b, R (.slice (some ⟨b, 0, none⟩) len len) (pt b cs et :: L)) : Does C L (Instr.buildSlice t len ⟨l⟩) R := by
  intro w hw
  obtain ⟨d, hd, hkd⟩ := (hC.tab.get hti).und
  rw [hk] at hkd
  obtain rfl := kOk.slice hkd
  have hs := run_sizeOf' (w := w) (hC.tab.get hte)
  obtain ⟨z, hz, hzc⟩ := run_zero' (w := w) (hC.tab.get hte)
  have hsz' : ¬ len * te.size > 2 ^ 24 := by have := Nat.le_of_ble_eq_true hsz; omega
  have hpos' : ¬ len * te.size = 0 := fun h => by rw [h] at hpos; cases hpos
  have hfill := fill_bld l cs0 cs hf
  refine ⟨_, w.alloc (.cells cs.toArray et (0, 0)), _, ?_, hw.alloc _ (c := pt w.heap.size cs et) ⟨fun _ => Iff.rfl, ?_⟩, hR w.heap.size⟩
  · simp only [Instr.buildSlice, Sem.run_bind, run_underlying' hd, Result.andThen_ok, hs, if_neg hsz', if_neg hpos', hz, hzc, h0, hfill, newRow, run_newObj, Sem.run_pure]
    rfl
  · show (w.heap.push _)[w.heap.size]? = _
    simp

/-- A call, behind a change of what the chunks are seen as. -/
theorem callE {C : Ctx} {L : List Chunk} {f : FuncId} {args : List Value} {K : Value → List Chunk → Prop} (A B : List Chunk) {Post : Value → List Chunk → Prop} (hE : Ent L (A ++ B))
    (hc : ∀ w S, (∀ r, RO C.w0 C.S0 r → RO w S r) → (∀ r ∈ B, RO w S r) → Sep A w S → (∀ b, S b → b < w.heap.size) → Trip C.P f ⟨args⟩ w S Post)
    (hk : ∀ v L', Post v L' → K v (L' ++ B)) : CallX C L f args K := by
  unfold CallX
  exact ⟨A, B, Post, hE, fun w S h1 h2 h3 h4 => .inr (hc w S h1 h2 h3 h4), hk⟩

/-! ### contracts of the library -/
theorem Inv.below {w w' : World} {S : FP} (h : RowKit.Below w.heap.size w w') : Inv w S [] w' :=
  ⟨⟨h.os, h.tape, h.output, h.size, fun b hb _ => h.block b hb⟩, fun _ => False, trivial, fun _ h => h.elim⟩
theorem Inv.below1 {w w' : World} {S T : FP} {c : Chunk} (h : RowKit.Below w.heap.size w w') (hc : c.sat w' T) (hT : ∀ b, T b → w.heap.size ≤ b) : Inv w S [c] w' :=
  Inv.one (T := T) ⟨h.os, h.tape, h.output, h.size, fun b hb _ => h.block b hb⟩ hc fun b hb => .inr (hT b hb)
end Go.X

/- Regions that draw their order, with several effects: a front of operations in any order that goes along their edges, and a chain of operations behind it. -/
namespace Go.X
set_option linter.unusedVariables false
set_option linter.unusedSimpArgs false

/-- Those that u names for an operation lie before it: by an edge, or by an edge and what u names there. -/
def closB (ops : List Oper) (u : Nat → List Nat) : Nat → Bool
  | 0 => true
  | k + 1 => (match ops[k]? with | some o => (u k).all fun j => (depsOf o).contains j || (depsOf o).any fun d => (u d).contains j | none => true) && closB ops u k
/-- From number k on each operation lies behind all the ones with smaller numbers. -/
def chainB (ops : List Oper) : Nat → Nat → Bool
  | _, 0 => true
  | k, n + 1 => sweep ops k (((ops[k]?).map depsOf).getD []) && chainB ops (k + 1) n

theorem closB_spec {ops : List Oper} {u : Nat → List Nat} : ∀ {n : Nat}, closB ops u n = true → ∀ i o, i < n → ops[i]? = some o → ∀ j ∈ u i, j ∈ depsOf o ∨ ∃ d ∈ depsOf o, j ∈ u d
  | 0, _, i, _, hi, _ => by omega
  | n + 1, h, i, o, hi, ho => by
    simp only [closB, Bool.and_eq_true] at h
    rcases Nat.lt_or_ge i n with h' | h'
    · exact closB_spec h.2 i o h' ho
    · obtain rfl : i = n := by omega
      have h1 := h.1
      rw [ho] at h1
      intro j hj
      have := (List.all_eq_true.1 h1) j hj
      rw [Bool.or_eq_true] at this
      rcases this with h | h
      · exact .inl (by simpa using h)
      · obtain ⟨d, hd, hd'⟩ := List.any_eq_true.1 h
        exact .inr ⟨d, hd, by simpa using hd'⟩
theorem chainB_spec {ops : List Oper} : ∀ {n k : Nat}, chainB ops k n = true → ∀ i o, k ≤ i → i < k + n → ops[i]? = some o → sweep ops i (depsOf o) = true
  | 0, k, _, i, _, h1, h2, _ => by omega
  | n + 1, k, h, i, o, h1, h2, ho => by
    simp only [chainB, Bool.and_eq_true] at h
    rcases Nat.eq_or_lt_of_le h1 with rfl | h'
    · simpa [ho] using h.1
    · exact chainB_spec h.2 i o h' (by omega) ho

/-- The operations with these numbers, in their order. -/
def wpChain (P : Program) (ops : Array Oper) (Q' : Exit → Act → World → Prop) : List Oper → Nat → Act → World → Prop
  | [], _, a, w => Q' .normal a w
  | _ :: os, i, a, w => ∀ K : Act → World → Prop, (∀ a w, wpChain P ops Q' os (i + 1) a w → K a w) → wpOp P ops Q' i K a w

section
variable {P : Program} {Q' : Exit → Act → World → Prop}

def unl (l : Array Bool) : Nat := (l.toList.filter (!·)).length
theorem unl_list : ∀ {l : List Bool} {i : Nat}, l[i]? = some false → ((l.set i true).filter (!·)).length + 1 = (l.filter (!·)).length
  | [], i, h => by simp at h
  | b :: l, 0, h => by simp at h; subst h; simp
  | b :: l, i + 1, h => by
    have := unl_list (l := l) (i := i) (by simpa using h)
    cases b
    · simp at this ⊢; omega
    · simpa using this
theorem getD_false {l : Array Bool} {i : Nat} (hf : l.getD i true = false) : l.toList[i]? = some false := by
  unfold Array.getD at hf
  split at hf
  · rename_i h
    rw [Array.getElem?_toList, Array.getElem?_eq_getElem h]
    exact congrArg some hf
  · cases hf
theorem unl_set {l : Array Bool} {i : Nat} (hi : i < l.size) (hf : l.getD i true = false) : unl (l.setIfInBounds i true) + 1 = unl l := by
  have := unl_list (getD_false hf)
  unfold unl
  rw [← this]
  simp
theorem unl_zero {l : Array Bool} (h : unl l = 0) (i : Nat) : l.getD i true = true := by
  cases hg : l.getD i true with
  | true => rfl
  | false =>
    have h1 := List.eq_nil_of_length_eq_zero h
    rw [List.filter_eq_nil_iff] at h1
    exact absurd rfl (h1 false (List.mem_of_getElem? (getD_false hg)))

theorem sweep_listed {ops : List Oper} {l : Array Bool} (hc : ∀ (i : Nat) (o : Oper), ops[i]? = some o → l.getD i false = true → okAt o l = true) :
    ∀ (i : Nat) (S : List Nat), i ≤ ops.length → sweep ops i S = true → (∀ j ∈ S, l.getD j false = true) → ∀ j, j < i → l.getD j false = true
  | 0, _, _, _, _, j, hj => by omega
  | i + 1, S, hi, h, hS, j, hj => by
    simp only [sweep, Bool.and_eq_true] at h
    have hi' : l.getD i false = true := hS i (by simpa using h.1)
    have ho : ops[i]? = some ops[i] := by simp [show i < ops.length by omega]
    rcases Nat.lt_or_ge j i with hlt | hge
    · refine sweep_listed hc i _ (by omega) h.2 (fun k hk => ?_) j hlt
      rcases List.mem_append.1 hk with hk | hk
      · exact hS k hk
      · rw [ho] at hk
        exact okAt_iff.1 (hc i _ ho hi') k (by simpa using hk)
    · obtain rfl : j = i := by omega
      exact hi'

/-- What is listed goes along the edges. -/
structure Ls (ops : List Oper) (l : Array Bool) : Prop where
  size : l.size = ops.length
  closed : ∀ (i : Nat) (o : Oper), ops[i]? = some o → l.getD i false = true → okAt o l = true

theorem Ls.set {ops : List Oper} {l : Array Bool} (h : Ls ops l) {i : Nat} {o : Oper} (ho : ops[i]? = some o) (hok : okAt o l = true) : Ls ops (l.setIfInBounds i true) := by
  have hi : i < l.size := by rw [h.size]; exact (List.getElem?_eq_some_iff.1 ho).1
  refine ⟨by simpa using h.size, fun j u hu hj => ?_⟩
  rw [getD_set hi] at hj
  refine okAt_iff.2 fun k hk => ?_
  rw [getD_set hi]
  split
  · rfl
  · by_cases hij : i = j
    · subst hij
      rw [ho] at hu; cases hu
      exact okAt_iff.1 hok k hk
    · rw [if_neg hij] at hj
      exact okAt_iff.1 (h.closed j u hu hj) k hk

/-- Only the chain is left. -/
theorem wpAny_chain {ops : List Oper} (hb : backB ops 0 = true) (n0 : Nat) (hch : ∀ i o, n0 ≤ i → ops[i]? = some o → sweep ops i (depsOf o) = true) : ∀ (suf : List Oper) (k fuel : Nat) (l : Array Bool) (a : Act) (w : World),
    n0 ≤ k → ops.drop k = suf → Ls ops l → (∀ i, i < ops.length → (l.getD i false = true ↔ i < k)) → suf.length ≤ fuel → wpChain P ops.toArray Q' suf k a w → wpAny P .any ops.toArray Q' fuel l a w := by
  intro suf
  induction suf with
  | nil =>
    intro k fuel l a w hk hd hL hl hf h
    have hlen : ops.length ≤ k := List.drop_eq_nil_iff.1 hd
    refine wpAny_done ?_ h fuel
    apply List.eq_nil_iff_forall_not_mem.2
    intro i hi
    obtain ⟨o, ho, hl', _⟩ := mem_ready.1 hi
    have hlt : i < ops.length := by obtain ⟨h, _⟩ := Array.getElem?_eq_some_iff.1 ho; simpa using h
    have := (hl i hlt).2 (by omega)
    rw [← getD_tf (by rw [hL.size]; exact hlt), hl'] at this
    cases this
  | cons o suf ih =>
    intro k fuel l a w hk hd hL hl hf h
    have hklt : k < ops.length := by
      rcases Nat.lt_or_ge k ops.length with h | h
      · exact h
      · rw [List.drop_eq_nil_iff.2 h] at hd; cases hd
    have hok : ops[k]? = some o := by
      have := congrArg (·[0]?) hd
      simpa using this
    have hd' : ops.drop (k + 1) = suf := by rw [← List.drop_drop, hd]; rfl
    obtain ⟨fuel, rfl⟩ : ∃ f, fuel = f + 1 := ⟨fuel - 1, by simp at hf; omega⟩
    have hready : ∀ i, i ∈ Region.ready .any ops.toArray l → i = k := by
      intro i hi
      obtain ⟨u, hu, hl', hoku⟩ := mem_ready.1 hi
      have hu : ops[i]? = some u := by simpa using hu
      have hlt : i < ops.length := (List.getElem?_eq_some_iff.1 hu).1
      have hik : k ≤ i := by
        rcases Nat.lt_or_ge i k with h | h
        · have := (hl i hlt).2 h
          rw [← getD_tf (by rw [hL.size]; exact hlt), hl'] at this
          cases this
        · exact h
      rcases Nat.eq_or_lt_of_le hik with h | h
      · exact h.symm
      · have := sweep_listed hL.closed i (depsOf u) (by omega) (hch i u (by omega) hu) (fun j hj => okAt_iff.1 hoku j hj) k h
        have := (hl k hklt).1 this
        omega
    refine ⟨fun hr => ?_, fun i hi => ?_⟩
    · exfalso
      have := ready_all (by simpa using hL.size) (by simpa using hb) hr k (by simpa using hklt)
      rw [getD_tf (by rw [hL.size]; exact hklt)] at this
      have := (hl k hklt).1 this
      omega
    · have hik := hready i hi
      subst hik
      obtain ⟨u, hu, hl', hoku⟩ := mem_ready.1 hi
      have hu : ops[i]? = some u := by simpa using hu
      rw [hok] at hu; cases hu
      refine h _ fun a' w' h' => ih (i + 1) fuel _ a' w' (by omega) hd' (hL.set hok hoku) (fun j hj => ?_) (by simp at hf; omega) h'
      rw [getD_set (by rw [hL.size]; exact hklt)]
      by_cases hij : i = j
      · simp [hij]
      · rw [if_neg hij, hl j hj]; omega

theorem wpAny_front {pre suf : List Oper} {u : Nat → List Nat} (hb : backB (pre ++ suf) 0 = true) (hcl : closB pre u pre.length = true) (hch : chainB (pre ++ suf) pre.length suf.length = true) (J : (Nat → Bool) → Act → World → Prop)
    (hJ : ∀ S S' a w, (∀ i, i < pre.length → S i = S' i) → J S a w → J S' a w)
    (hstep : ∀ S a w i o, pre[i]? = some o → S i = false → (∀ j ∈ u i, S j = true) → J S a w → ∀ K : Act → World → Prop, (∀ a w, J (fun j => S j || j == i) a w → K a w) → wpOp P (pre ++ suf).toArray Q' i K a w)
    (hend : ∀ S a w, (∀ i, i < pre.length → S i = true) → J S a w → wpChain P (pre ++ suf).toArray Q' suf pre.length a w) :
    ∀ (fuel : Nat) (l : Array Bool) (a : Act) (w : World), Ls (pre ++ suf) l → (∀ i, i < pre.length → l.getD i false = true → ∀ j ∈ u i, l.getD j false = true) → (∀ i, pre.length ≤ i → i < (pre ++ suf).length → l.getD i false = false) → unl l ≤ fuel → J (fun i => l.getD i false) a w →
      wpAny P .any (pre ++ suf).toArray Q' fuel l a w := by
  have hsp := backB_spec hb
  have hchs := chainB_spec hch
  have hcls := closB_spec hcl
  have chain : ∀ (fuel : Nat) (l : Array Bool) (a : Act) (w : World), Ls (pre ++ suf) l → (∀ i, pre.length ≤ i → i < (pre ++ suf).length → l.getD i false = false) → unl l ≤ fuel → (∀ i, i < pre.length → l.getD i false = true) → J (fun i => l.getD i false) a w → wpAny P .any (pre ++ suf).toArray Q' fuel l a w := by
    intro fuel l a w hL hs hf hall hj
    refine wpAny_chain hb pre.length (fun i o h1 ho => hchs i o h1 (by have := (List.getElem?_eq_some_iff.1 ho).1; simpa using this) ho) suf pre.length fuel l a w (Nat.le_refl _) (by simp) hL (fun i hi => ⟨fun h => ?_, hall i⟩) ?_ (hend _ a w hall hj)
    · rcases Nat.lt_or_ge i pre.length with h' | h'
      · exact h'
      · rw [hs i h' hi] at h; cases h
    · -- the unlisted ones are the chain
      refine Nat.le_trans ?_ hf
      have hl : l.toList.drop pre.length = List.replicate suf.length false := by
        apply List.ext_getElem?
        intro i
        rw [List.getElem?_drop, List.getElem?_replicate]
        split
        · rename_i hi
          have h1 := hs (pre.length + i) (by omega) (by simp; omega)
          have hsz : pre.length + i < l.size := by rw [hL.size]; simp; omega
          simp only [Array.getD, hsz, dif_pos] at h1
          rw [Array.getElem?_toList]
          rw [Array.getElem?_eq_getElem hsz]
          exact congrArg some h1
        · rename_i hi
          rw [List.getElem?_eq_none]
          have := hL.size
          simp at this ⊢; omega
      unfold unl
      rw [← List.take_append_drop pre.length l.toList, hl, List.filter_append, List.length_append]
      simp
  intro fuel
  induction fuel with
  | zero =>
    intro l a w hL hu hs hf hj
    exact chain 0 l a w hL hs hf (fun i hi => by
      rw [← getD_tf (by rw [hL.size]; simp; omega)]
      exact unl_zero (by omega) i) hj
  | succ fuel ih =>
    intro l a w hL hu hs hf hj
    by_cases hall : ∀ i, i < pre.length → l.getD i false = true
    · exact chain _ l a w hL hs hf hall hj
    · refine ⟨fun hr => ?_, fun i hi => ?_⟩
      · exfalso
        apply hall
        intro i hi
        have := ready_all (by simpa using hL.size) (by simpa using hb) hr i (by simp; omega)
        rw [getD_tf (by rw [hL.size]; simp; omega)] at this
        exact this
      · obtain ⟨o, ho, hl', hok⟩ := mem_ready.1 hi
        have ho : (pre ++ suf)[i]? = some o := by simpa using ho
        have hlt := (List.getElem?_eq_some_iff.1 ho).1
        have hip : i < pre.length := by
          rcases Nat.lt_or_ge i pre.length with h | h
          · exact h
          · exfalso
            apply hall
            intro j hj'
            exact sweep_listed hL.closed i (depsOf o) (by omega) (hchs i o h (by simpa using hlt) ho) (fun j hj => okAt_iff.1 hok j hj) j (by omega)
        have hpo : pre[i]? = some o := by rw [List.getElem?_append_left hip] at ho; exact ho
        have hui : ∀ j ∈ u i, l.getD j false = true := by
          intro j hj'
          have hdl := okAt_iff.1 hok
          rcases hcls i o hip hpo j hj' with h | ⟨d, hd, hjd⟩
          · exact hdl j h
          · have hdi := (hsp i o ho).1 d hd
            exact hu d (by omega) (hdl d hd) j hjd
        refine hstep _ a w i o hpo (by rw [← getD_tf (by rw [hL.size]; exact hlt)]; exact hl') hui hj _ fun a' w' hj' => ih _ a' w' (hL.set ho hok) (fun k hk hlk j hjk => ?_) (fun k hk hk' => ?_) ?_ (hJ _ _ a' w' (fun k hk => ?_) hj')
        · rw [getD_set (by rw [hL.size]; exact hlt)] at hlk ⊢
          split
          · rfl
          · by_cases hik : i = k
            · subst hik; exact hui j hjk
            · rw [if_neg hik] at hlk; exact hu k hk hlk j hjk
        · rw [getD_set (by rw [hL.size]; exact hlt), if_neg (by omega)]; exact hs k hk hk'
        · have := unl_set (by rw [hL.size]; exact hlt) hl'
          omega
        · rw [getD_set (by rw [hL.size]; exact hlt)]
          by_cases hik : i = k
          · subst hik; simp
          · rw [if_neg hik]
            have : (k == i) = false := by simp; omega
            simp [this]

theorem wp_region_front {id : Nat} {a : Act} {w : World} (hm : P.follows .mixedOrders = true) {pre suf : List Oper} {u : Nat → List Nat} (hb : backB (pre ++ suf) 0 = true) (hcl : closB pre u pre.length = true) (hch : chainB (pre ++ suf) pre.length suf.length = true) (J : (Nat → Bool) → Act → World → Prop)
    (hJ : ∀ S S' a w, (∀ i, i < pre.length → S i = S' i) → J S a w → J S' a w)
    (h0 : J (fun _ => false) a { w with drawn := w.drawn + 1 })
    (hstep : ∀ S a w i o, pre[i]? = some o → S i = false → (∀ j ∈ u i, S j = true) → J S a w → ∀ K : Act → World → Prop, (∀ a w, J (fun j => S j || j == i) a w → K a w) → wpOp P (pre ++ suf).toArray Q' i K a w)
    (hend : ∀ S a w, (∀ i, i < pre.length → S i = true) → J S a w → wpChain P (pre ++ suf).toArray Q' suf pre.length a w) : (Code.region id (pre ++ suf).toArray true).wp P Q' a w := by
  refine wp_region_any hm ?_
  have hfalse : ∀ (n i : Nat), (Array.replicate n false).getD i false = false := fun n i => by
    by_cases h : i < n <;> simp [Array.getD, h]
  refine wpAny_front (u := u) hb hcl hch J hJ hstep hend _ _ a _ ⟨by simp, fun i o _ h => by rw [hfalse] at h; cases h⟩ (fun i _ h => by rw [hfalse] at h; cases h) (fun i _ _ => hfalse _ _) ?_ (hJ _ _ _ _ (fun i _ => (hfalse _ i).symm) h0)
  unfold unl
  simp
end
end Go.X

/- Regions that draw their order, by the executor: each operation of the front by itself, then the chain. -/
namespace Go.X
set_option linter.unusedVariables false
set_option linter.unusedSimpArgs false

abbrev RelT := Nat → List Value → Value → List Chunk → Prop
/-- What is known of the values of operations, by their numbers. -/
def kf : List (Nat × Value) → Nat → Value
  | [], _ => undef
  | (j, v) :: kn, k => match Nat.beq j k with
    | true => v
    | false => kf kn k
def envP (pre : List Oper) (e : Env) (j : Nat) (v : Value) : Env := match lget pre j with
  | some o => match o.dst with
    | some d => (d, v) :: e
    | none => e
  | none => e
/-- For all values and chunks that these operations may have left. -/
def tele (pre : List Oper) (u : Nat → List Nat) (Rel : RelT) (K : List (Nat × Value) → Env → List Chunk → Prop) (js : List Nat) : List (Nat × Value) → Env → List Chunk → Prop :=
  List.rec (motive := fun _ => List (Nat × Value) → Env → List Chunk → Prop) (fun kn e L => K kn e L)
    (fun j _ ih kn e L => ∀ v N, Rel j ((u j).map (kf kn)) v N → ih ((j, v) :: kn) (envP pre e j v) (N ++ L)) js
/-- Each one's own ones come ahead of it. -/
def teleB (u : Nat → List Nat) : List Nat → List Nat → Bool
  | _, [] => true
  | known, j :: js => (u j).all known.contains && teleB u (j :: known) js
def at' (C : Ctx) (w : World) (S : FP) : Ctx := ⟨C.P, C.tab, C.n, w, S⟩
/-- Each operation of the front, by what lies before it. -/
def XFront (C : Ctx) (pre : List Oper) (u : Nat → List Nat) (Rel : RelT) (e : Env) (L : List Chunk) (os : List Oper) : Nat → Prop :=
  List.rec (motive := fun _ => Nat → Prop) (fun _ => True)
    (fun o _ ih i => (∀ w S, (∀ r, RO C.w0 C.S0 r → RO w S r) → tele pre u Rel (fun kn e' L' => XOp (at' C w S) o e' L' fun v L'' => ∃ N, Rel i ((u i).map (kf kn)) v N ∧ Ent L'' (N ++ L')) (u i) [] e L) ∧ ih (i + 1)) os
def XSuf (C : Ctx) (K : Env → List Chunk → Prop) (os : List Oper) : Env → List Chunk → Prop :=
  List.rec (motive := fun _ => Env → List Chunk → Prop) (fun e L => K e L) (fun o _ ih e L => XOp C o e L fun v L' => ih (put C.n e o.dst v) L') os
def noDup : List Nat → Bool
  | [] => true
  | x :: l => !l.contains x && noDup l
/-- The front's slots are new ones. -/
def freshB (n : Nat) (e : Env) (ds : List Nat) : Bool := noDup ds && ds.all fun d => Nat.blt d n && (get e d).isNone
def frontOk (n : Nat) (e : Env) (pre suf : List Oper) (u : Nat → List Nat) : Bool :=
  backB (pre ++ suf) 0 && closB pre u pre.length && chainB (pre ++ suf) pre.length suf.length && freshB n e (pre.filterMap (·.dst)) && (pre ++ suf).all (·.guard.isNone) && ((List.range pre.length).all fun i => noDup (u i) && teleB u [] (u i) && (u i).all (Nat.blt · i)) && teleB u [] (List.range pre.length)

theorem noDup_iff : ∀ {l : List Nat}, noDup l = true → l.Nodup
  | [], _ => by simp
  | x :: l, h => by
    simp only [noDup, Bool.and_eq_true] at h
    rw [List.nodup_cons]
    exact ⟨by simpa using h.1, noDup_iff h.2⟩
theorem XFront_spec {C : Ctx} {pre : List Oper} {u : Nat → List Nat} {Rel : RelT} {e : Env} {L : List Chunk} : ∀ {os : List Oper} {k : Nat}, XFront C pre u Rel e L os k → ∀ i o, os[i]? = some o →
    ∀ w S, (∀ r, RO C.w0 C.S0 r → RO w S r) → tele pre u Rel (fun kn e' L' => XOp (at' C w S) o e' L' fun v L'' => ∃ N, Rel (k + i) ((u (k + i)).map (kf kn)) v N ∧ Ent L'' (N ++ L')) (u (k + i)) [] e L
  | [], _, _, i, o, h => by simp at h
  | x :: os, k, ⟨h1, h2⟩, 0, o, h => by simp at h; subst h; exact h1
  | x :: os, k, ⟨h1, h2⟩, i + 1, o, h => by
    have := XFront_spec (os := os) (k := k + 1) h2 i o (by simpa using h)
    rwa [show k + 1 + i = k + (i + 1) by omega] at this

theorem kf_cons {kn : List (Nat × Value)} {j k : Nat} {v : Value} : kf ((j, v) :: kn) k = if j = k then v else kf kn k := by
  simp only [kf]
  cases hb : Nat.beq j k with
  | true => rw [if_pos (Nat.eq_of_beq_eq_true hb)]
  | false => rw [if_neg fun h => by subst h; simp at hb]

theorem tele_inst {pre : List Oper} {u : Nat → List Nat} {Rel : RelT} {σ : Nat → Value} {ν : Nat → List Chunk} {K : List (Nat × Value) → Env → List Chunk → Prop} : ∀ {js known : List Nat} {kn : List (Nat × Value)} {e : Env} {L : List Chunk},
    (∀ j ∈ js, Rel j ((u j).map σ) (σ j) (ν j)) → (∀ k ∈ known, kf kn k = σ k) → teleB u known js = true → tele pre u Rel K js kn e L →
    ∃ kn' e' L', K kn' e' L' ∧ (∀ k, k ∈ js ∨ k ∈ known → kf kn' k = σ k) ∧ (∀ t v, get e' t = some v → get e t = some v ∨ ∃ j o, j ∈ js ∧ pre[j]? = some o ∧ o.dst = some t ∧ v = σ j) ∧ L'.Perm (js.flatMap ν ++ L)
  | [], known, kn, e, L, _, hkn, _, h => ⟨kn, e, L, h, fun k hk => hkn k (hk.resolve_left (by simp)), fun t v hv => .inl hv, .refl _⟩
  | j :: js, known, kn, e, L, hrel, hkn, hb, h => by
    simp only [teleB, Bool.and_eq_true] at hb
    have huj : ∀ k ∈ u j, k ∈ known := fun k hk => by have := (List.all_eq_true.1 hb.1) k hk; simpa using this
    have hmap : (u j).map (kf kn) = (u j).map σ := List.map_congr_left fun k hk => hkn k (huj k hk)
    have h' : tele pre u Rel K js ((j, σ j) :: kn) (envP pre e j (σ j)) (ν j ++ L) := h (σ j) (ν j) (by rw [hmap]; exact hrel j (by simp))
    obtain ⟨kn', e', L', h1, h2, h3, h4⟩ := tele_inst (js := js) (known := j :: known) (fun k hk => hrel k (by simp [hk])) (fun k hk => by
      rw [kf_cons]
      by_cases hjk : j = k
      · rw [if_pos hjk, hjk]
      · rw [if_neg hjk]
        rcases List.mem_cons.1 hk with rfl | hk
        · exact absurd rfl hjk
        · exact hkn k hk) hb.2 h'
    refine ⟨kn', e', L', h1, fun k hk => h2 k ?_, fun t v hv => ?_, ?_⟩
    · rcases hk with hk | hk
      · rcases List.mem_cons.1 hk with rfl | hk
        · exact .inr (by simp)
        · exact .inl hk
      · exact .inr (by simp [hk])
    · rcases h3 t v hv with h | ⟨k, o, hk, r⟩
      · unfold envP at h
        split at h
        · rename_i o ho
          split at h
          · rename_i d hd
            simp only [get] at h
            cases hbe : Nat.beq d t with
            | true =>
              simp [hbe] at h
              have := Nat.eq_of_beq_eq_true hbe
              subst this
              exact .inr ⟨j, o, by simp, by rw [← lget_eq]; exact ho, hd, h.symm⟩
            | false => simp [hbe] at h; exact .inl h
          · exact .inl h
        · exact .inl h
      · exact .inr ⟨k, o, by simp [hk], r⟩
    · refine h4.trans ?_
      simp only [List.flatMap_cons, List.append_assoc]
      rw [← List.append_assoc, ← List.append_assoc]
      exact List.perm_append_comm.append_right L

/-- The chunks of these operations. -/
def chS (ν : Nat → List Chunk) (L : List Chunk) (l : List Nat) : List Chunk := l.flatMap ν ++ L
theorem chS_eq (ν : Nat → List Chunk) (L : List Chunk) (l : List Nat) : chS ν L l = l.flatMap ν ++ L := rfl

section
variable {C : Ctx} {e : Env} {L : List Chunk}

/-- What is known when the operations of S are done. -/
def JX (C : Ctx) (pre : List Oper) (u : Nat → List Nat) (Rel : RelT) (e : Env) (L : List Chunk) (S : Nat → Bool) (a : Act) (w : World) : Prop :=
  ∃ (σ : Nat → Value) (ν : Nat → List Chunk), (∀ i, i < pre.length → S i = true → Rel i ((u i).map σ) (σ i) (ν i)) ∧ (∀ i, i < pre.length → S i = true → ∀ j ∈ u i, S j = true) ∧ ES C.n e a ∧
    (∀ i o d, pre[i]? = some o → S i = true → o.dst = some d → a.tmps[d]? = some (σ i)) ∧ Holds C (chS ν L ((List.range pre.length).filter S)) w

theorem XSuf.sound (hC : CtxOk C) {ops : List Oper} {K : Env → List Chunk → Prop} {Q' : Exit → Act → World → Prop} (hQ : ∀ e a L w, ES C.n e a → Holds C L w → K e L → Q' .normal a w) (hg : ∀ o ∈ ops, o.guard.isNone = true) :
    ∀ (suf : List Oper) (k : Nat) {e : Env} {a : Act} {L : List Chunk} {w : World}, ops.drop k = suf → ES C.n e a → Holds C L w → XSuf C K suf e L → wpChain C.P ops.toArray Q' suf k a w
  | [], k, e, a, L, w, hd, ha, hw, h => hQ e a L w ha hw h
  | o :: os, k, e, a, L, w, hd, ha, hw, h => by
    have hk : ops[k]? = some o := by
      have := congrArg (·[0]?) hd
      simpa using this
    have hd' : ops.drop (k + 1) = os := by rw [← List.drop_drop, hd]; rfl
    intro K' hK'
    unfold wpOp
    rw [show ops.toArray[k]? = some o by simpa using hk]
    have hgo : o.guard = none := by have := hg o (List.mem_of_getElem? hk); simpa using this
    simp only [Region.wanted, hgo, if_true]
    exact .inl (XOp.sound hC ha (show XOp C o e L fun v L' => XSuf C K os (put C.n e o.dst v) L' from h) K' Q' (fun v L' w' hk hh => hK' _ _ (XSuf.sound hC hQ hg os (k + 1) hd' (ha.put o.dst v) hh hk)) w hw)

theorem filter_perm {n i : Nat} {S : Nat → Bool} (hi : i < n) (hs : S i = false) : ((List.range n).filter fun j => S j || j == i).Perm (i :: (List.range n).filter S) := by
  rw [List.perm_ext_iff_of_nodup (List.nodup_range.filter _) (by
    rw [List.nodup_cons]
    exact ⟨by simp [hs], List.nodup_range.filter _⟩)]
  intro j
  simp only [List.mem_filter, List.mem_range, Bool.or_eq_true, List.mem_cons, beq_iff_eq]
  constructor
  · rintro ⟨h1, h2 | rfl⟩
    · exact .inr ⟨h1, h2⟩
    · exact .inl rfl
  · rintro (rfl | ⟨h1, h2⟩)
    · exact ⟨hi, .inr rfl⟩
    · exact ⟨h1, .inl h2⟩

/-- A REGION THAT DRAWS ITS ORDER, by a front and a chain. -/
theorem XFront.sound (hC : ∀ w S, CtxOk (at' C w S)) {id : Nat} {pre suf : List Oper} {u : Nat → List Nat} {Rel : RelT} {K : Env → List Chunk → Prop} {Q' : Exit → Act → World → Prop} (hQ : ∀ e a L w, ES C.n e a → Holds C L w → K e L → Q' .normal a w) {a : Act} {w : World} (ha : ES C.n e a) (hw : Holds C L w)
    (hok : frontOk C.n e pre suf u = true) (hfr : XFront C pre u Rel e L pre 0) (hend : tele pre u Rel (fun _ e' L' => XSuf C K suf e' L') (List.range pre.length) [] e L) :
    (Code.region id (pre ++ suf).toArray true).wp C.P Q' a w := by
  simp only [frontOk, Bool.and_eq_true] at hok
  obtain ⟨⟨⟨⟨⟨⟨hb, hcl⟩, hch⟩, hfresh⟩, hgd⟩, hu⟩, htr⟩ := hok
  have hg : ∀ o ∈ pre ++ suf, o.guard.isNone = true := List.all_eq_true.1 hgd
  have hu2 : ∀ i, i < pre.length → (noDup (u i) = true ∧ teleB u [] (u i) = true) ∧ (u i).all (Nat.blt · i) = true := fun i hi => by
    have := (List.all_eq_true.1 hu) i (List.mem_range.2 hi)
    rwa [Bool.and_eq_true, Bool.and_eq_true] at this
  have hu' : ∀ i, i < pre.length → (u i).Nodup ∧ ∀ j ∈ u i, j < i := fun i hi =>
    ⟨noDup_iff (hu2 i hi).1.1, fun j hj => by have := (List.all_eq_true.1 (hu2 i hi).2) j hj; simpa [Nat.blt_eq] using this⟩
  simp only [freshB, Bool.and_eq_true] at hfresh
  have hfd : ∀ (i : Nat) (o : Oper) (d : Nat), pre[i]? = some o → o.dst = some d → d < C.n ∧ get e d = none := fun i o d hi hd => by
    have := (List.all_eq_true.1 hfresh.2) d (List.mem_filterMap.2 ⟨o, List.mem_of_getElem? hi, hd⟩)
    rw [Bool.and_eq_true] at this
    exact ⟨by simpa [Nat.blt_eq] using this.1, by simpa using this.2⟩
  have hdist : ∀ (i j : Nat) (o p : Oper) (d : Nat), pre[i]? = some o → pre[j]? = some p → o.dst = some d → p.dst = some d → i = j := by
    have hnd := noDup_iff hfresh.1
    have key : ∀ (l : List Oper), (l.filterMap (·.dst)).Nodup → ∀ (i j : Nat) (o p : Oper) (d : Nat), l[i]? = some o → l[j]? = some p → o.dst = some d → p.dst = some d → i = j := by
      intro l
      induction l with
      | nil => intro _ i j o p d h; simp at h
      | cons x l ih =>
        intro hn i j o p d hi hj hd hd'
        have hl : (l.filterMap (·.dst)).Nodup := by
          rw [List.filterMap_cons] at hn
          split at hn
          · exact hn
          · exact (List.nodup_cons.1 hn).2
        have hx : ∀ (k : Nat) (q : Oper), l[k]? = some q → q.dst = some d → x.dst ≠ some d := fun k q hk hq he => by
          rw [List.filterMap_cons, he] at hn
          exact (List.nodup_cons.1 hn).1 (List.mem_filterMap.2 ⟨q, List.mem_of_getElem? hk, hq⟩)
        cases i with
        | zero =>
          simp at hi; subst hi
          cases j with
          | zero => rfl
          | succ j => exact absurd hd (hx j p (by simpa using hj) hd')
        | succ i =>
          cases j with
          | zero => simp at hj; subst hj; exact absurd hd' (hx i o (by simpa using hi) hd)
          | succ j => rw [ih hl i j o p d (by simpa using hi) (by simpa using hj) hd hd']
    exact key pre hnd
  refine wp_region_front (u := u) (hC w (fun _ => True)).mixed hb hcl hch (JX C pre u Rel e L) ?_ ?_ ?_ ?_
  · rintro S S' a w hS ⟨σ, ν, h1, h1', h2, h3, h4⟩
    have hff : (List.range pre.length).filter S = (List.range pre.length).filter S' := List.filter_congr fun i hi => hS i (List.mem_range.1 hi)
    refine ⟨σ, ν, fun i hi hs => h1 i hi (hS i hi ▸ hs), fun i hi hs j hj => ?_, h2, fun i o d hi hs => h3 i o d hi ?_, hff ▸ h4⟩
    · have := (hu' i hi).2 j hj
      rw [← hS j (by omega)]
      exact h1' i hi (by rw [hS i hi]; exact hs) j hj
    · rw [hS i (List.getElem?_eq_some_iff.1 hi).1]; exact hs
  · refine ⟨fun _ => undef, fun _ => [], fun _ _ h => Bool.noConfusion h, fun _ _ h => Bool.noConfusion h, ha, fun _ _ _ _ h => Bool.noConfusion h, ?_⟩
    have : (List.range pre.length).filter (fun _ => false) = [] := by simp
    rw [this]
    exact Inv.drew hw
  · rintro S a w i o ho hs husd ⟨σ, ν, h1, h1', h2, h3, h4⟩ K' hK'
    have hi : i < pre.length := (List.getElem?_eq_some_iff.1 ho).1
    obtain ⟨hund, hult⟩ := hu' i hi
    unfold wpOp
    rw [show (pre ++ suf).toArray[i]? = some o by simp [List.getElem?_append_left hi, ho]]
    have hgo : o.guard = none := by have := hg o (by simp [List.mem_of_getElem? ho]); simpa using this
    simp only [Region.wanted, hgo, if_true]
    left
    -- the chunks of those that lie before it, and the others
    have hsub : ∀ j ∈ u i, j ∈ (List.range pre.length).filter S := fun j hj => List.mem_filter.2 ⟨List.mem_range.2 (by have := hult j hj; omega), husd j hj⟩
    have hperm : ((List.range pre.length).filter S).Perm (u i ++ ((List.range pre.length).filter S).filter fun j => !(u i).contains j) := by
      rw [List.perm_ext_iff_of_nodup (List.nodup_range.filter _) (by
        rw [List.nodup_append]
        refine ⟨hund, (List.nodup_range.filter _).filter _, fun x hx y hy => ?_⟩
        rintro rfl
        have := (List.mem_filter.1 hy).2
        simp at this
        exact this hx)]
      intro j
      simp only [List.mem_append]
      constructor
      · intro hj
        by_cases hju : j ∈ u i
        · exact .inl hju
        · exact .inr (List.mem_filter.2 ⟨hj, by simpa using hju⟩)
      · rintro (h | h)
        · exact hsub j h
        · exact (List.mem_filter.1 h).1
    have hcp : (chS ν L ((List.range pre.length).filter S)).Perm (chS ν L (u i) ++ (((List.range pre.length).filter S).filter fun j => !(u i).contains j).flatMap ν) := by
      rw [chS_eq, chS_eq]
      refine ((hperm.flatMap_right ν).append_right L).trans ?_
      rw [List.flatMap_append, List.append_assoc, List.append_assoc]
      exact List.Perm.append_left _ List.perm_append_comm
    obtain ⟨S1, hA, hd, hro, _, hgo'⟩ := Inv.handOver (Inv.perm hcp h4)
    have hx := XFront_spec hfr i o ho w S1 hro
    rw [Nat.zero_add] at hx
    obtain ⟨kn, e', L1, hx, hkn, hge, hLp⟩ := tele_inst (σ := σ) (ν := ν) (known := []) (fun j hj => h1 j (by have := hult j hj; omega) (husd j hj)) (by simp) (hu2 i hi).1.2 hx
    have hes : ES (at' C w S1).n e' a := ⟨h2.size, fun t v hv => by
      rcases hge t v hv with h | ⟨j, p, hj, hp, hd, rfl⟩
      · exact h2.val t v h
      · exact h3 j p t hp (husd j hj) hd, h2.defers⟩
    refine XOp.sound (hC w S1) hes hx K' Q' (fun v L' w' hk hh => hK' _ _ ?_) w (Inv.perm hLp.symm (Inv.start hA hd))
    obtain ⟨N, hN, hE⟩ := hk
    rw [List.map_congr_left fun k hk => hkn k (.inl hk)] at hN
    have hh' : Inv C.w0 C.S0 ((N ++ chS ν L (u i)) ++ (((List.range pre.length).filter S).filter fun j => !(u i).contains j).flatMap ν) w' := hgo' _ _ (Inv.perm (hLp.append_left N) (hE _ _ _ hh))
    have hup : ∀ j, j ≠ i → (fun k => if k = i then v else σ k) j = σ j := fun j hj => by simp [hj]
    have hmap : ∀ j, (∀ k ∈ u j, k ≠ i) → (u j).map (fun k => if k = i then v else σ k) = (u j).map σ := fun j hj => List.map_congr_left fun k hk => hup k (hj k hk)
    have hclS : ∀ j, j < pre.length → S j = true → ∀ k ∈ u j, k ≠ i := fun j hj hsj k hk he => by
      have := h1' j hj hsj k hk
      rw [he, hs] at this; cases this
    refine ⟨fun k => if k = i then v else σ k, fun k => if k = i then N else ν k, fun j hj hsj => ?_, fun j hj hsj k hk => ?_, ?_, fun j p d hp hsj hd' => ?_, ?_⟩
    · by_cases hji : j = i
      · subst hji
        rw [hmap j fun k hk => by have := hult k hk; omega]
        simpa using hN
      · have hsj' : S j = true := by simpa [hji] using hsj
        rw [hmap j (hclS j hj hsj')]
        simpa [hji] using h1 j hj hsj'
    · by_cases hji : j = i
      · subst hji
        simp [husd k hk]
      · have hsj' : S j = true := by simpa [hji] using hsj
        simp [h1' j hj hsj' k hk]
    · cases hdst : o.dst with
      | none => exact h2
      | some d =>
        obtain ⟨hdn, hde⟩ := hfd i o d ho hdst
        refine ⟨by simpa [Act.put] using h2.size, fun t u hu => ?_, h2.defers⟩
        have hne : d ≠ t := fun he => by rw [he, hu] at hde; cases hde
        simpa [Act.put, Array.getElem?_setIfInBounds, hne] using h2.val t u hu
    · by_cases hji : j = i
      · subst hji
        rw [ho] at hp; cases hp
        obtain ⟨hdn, _⟩ := hfd j o d ho hd'
        simp [hd', Act.put, h2.size, hdn]
      · have hsj' : S j = true := by simpa [hji] using hsj
        have := h3 j p d hp hsj' hd'
        simp only [if_neg hji]
        cases hdst : o.dst with
        | none => exact this
        | some d' =>
          have hne : d' ≠ d := fun he => hji (hdist j i p o d hp ho hd' (by rw [hdst, he]))
          simpa [Act.put, Array.getElem?_setIfInBounds, hne] using this
    · refine Inv.perm ?_ hh'
      have hfl : ∀ (l : List Nat), (∀ k ∈ l, k ≠ i) → l.flatMap (fun k => if k = i then N else ν k) = l.flatMap ν := fun l hl => by
        induction l with
        | nil => rfl
        | cons k l ih => simp only [List.flatMap_cons, ih fun k hk => hl k (by simp [hk]), if_neg (hl k (by simp))]
      rw [chS_eq (fun k => if k = i then N else ν k)]
      refine List.Perm.trans ?_ (((filter_perm hi hs).flatMap_right _).append_right L).symm
      have hni : ∀ k ∈ (List.range pre.length).filter S, k ≠ i := fun k hk he => by
        have := (List.mem_filter.1 hk).2
        rw [he, hs] at this; cases this
      rw [List.flatMap_cons, hfl _ hni]
      simp only [if_true]
      rw [List.append_assoc, List.append_assoc]
      refine List.Perm.append_left N ?_
      rw [← chS_eq ν L]
      exact hcp.symm
  · rintro S a w hS ⟨σ, ν, h1, h1', h2, h3, h4⟩
    have hff : (List.range pre.length).filter S = List.range pre.length := List.filter_eq_self.2 fun i hi => hS i (List.mem_range.1 hi)
    rw [hff] at h4
    obtain ⟨kn, e', L1, hx, _, hge, hLp⟩ := tele_inst (σ := σ) (ν := ν) (known := []) (fun j hj => h1 j (List.mem_range.1 hj) (hS j (List.mem_range.1 hj))) (by simp) htr hend
    refine XSuf.sound (ops := pre ++ suf) (hC C.w0 C.S0) hQ hg suf pre.length (by simp) ?_ (Inv.perm hLp.symm h4) hx
    exact ⟨h2.size, fun t v hv => by
      rcases hge t v hv with h | ⟨j, p, hj, hp, hd, rfl⟩
      · exact h2.val t v h
      · exact h3 j p t hp (hS j (List.mem_range.1 hj)) hd, h2.defers⟩

/-- A region that draws: pre in any order along its edges, then suf. -/
theorem drawF {C : Ctx} [hC : ∀ w S, CtxOk (at' C w S)] {ops : List Oper} {e : Env} {L : List Chunk} {K : Env → List Chunk → Prop} (n : Nat) (u : Nat → List Nat) (Rel : RelT) (hok : frontOk C.n e (ops.take n) (ops.drop n) u = true)
    (hfr : XFront C (ops.take n) u Rel e L (ops.take n) 0) (hend : tele (ops.take n) u Rel (fun _ e' L' => XSuf C K (ops.drop n) e' L') (List.range (ops.take n).length) [] e L) : XDrawS C ops e L K := by
  unfold XDrawS
  intro id Q a w hQ ha hw
  have := XFront.sound (id := id) hC hQ ha hw hok hfr hend
  rwa [List.take_append_drop] at this
end
end Go.X

/- Bytes that one owns: a string is appended; they are read as a string. Pointers that go through unsafe.Pointer. -/
namespace Go.X
set_option linter.unusedVariables false
set_option linter.unusedSimpArgs false

def encU (b : UInt8) : List Value := [.int .u8 b.toNat]
theorem flat_encU (l : List UInt8) : l.flatMap encU = l.map fun b => .int .u8 b.toNat := by
  induction l with
  | nil => rfl
  | cons b l ih => simp [encU, ih]
theorem strCells_encU (s : ByteArray) : Lib.strCells s = s.data.toList.flatMap encU := by
  rw [flat_encU]; rfl

section
variable {C : Ctx} {L : List Chunk}

theorem run_append_str_lies {P : Program} (w : World) (t u ty e : TypeId) (i : TypeInfo) (ht : P.underlying t = some (.slice e)) (hu : P.underlying u = some .string) (hi : P.info? e = some i) (hz : i.zero = some (.int .u8 0)) (hsize : i.size = 1) (hby : i.bytes = 1)
    (v : Value) (n : Nat) (xs : List Value) (hown : w.ownsRow 0 e 1 v n xs) (s : ByteArray) (hb : n + s.size ≤ 140737488355328) :
    ∃ v' w', (Builtin.append_ #[t, u] ty #[v, .string s]).run P w = .ok v' w' ∧ w'.ownsRow 0 e 1 v' (n + s.size) (xs ++ Lib.strCells s) ∧ w.grownBy w' v.ownBlock ∧ (v'.ownBlock = v.ownBlock ∨ v'.ownBlock = some w.heap.size) := by
  obtain ⟨v', w', hr, h2, h3, h4⟩ := Lib.run_append_own_string (P := P) w 0 t u ty e i ht hu hi hz hsize hby v n xs hown s (by unfold maxLen; omega) hb (Nat.zero_le _)
  refine ⟨v', w', hr, h2, h3, ?_⟩
  rcases hown.2 with ⟨rfl, rfl⟩ | ⟨g, cap, cur, rfl, hbg, hg, hnc, hcm, hcs, htake⟩
  · by_cases hm : s.size = 0
    · left; rw [(h4.2 ⟨rfl, hm⟩)]
    · have hr' := run_append_nil_string (P := P) w t u ty e i (.int .u8 0) ht hu hi hz s (by omega) (by omega) (by rw [hby]; omega)
      rw [hr] at hr'
      simp only [Result.ok.injEq] at hr'
      right; rw [hr'.1]; rfl
  · by_cases hroom : n + s.size ≤ cap
    · have hr' := Lib.run_append_room_string (P := P) w t u ty e i ht hu hi hsize g n cap cur hg s hroom (by simp at hcs; omega)
      rw [hr] at hr'
      simp only [Result.ok.injEq] at hr'
      left; rw [hr'.1]; rfl
    · have holds : ∀ j u, xs[j]? = some u → w.cell? ((⟨g, 0, none⟩ : Addr).add j) = some u := hown.cells (g := g) rfl
      have hxl : xs.length = n := by simpa using hown.1
      have hr' := Lib.run_append_grow_string (P := P) w t u ty e i (.int .u8 0) ht hu hi hz ⟨g, 0, none⟩ n cap xs (by rw [hsize]; simpa using hxl) holds s (by omega) (by omega) (by rw [hby]; exact growslice_fits (by omega) (by omega))
      rw [hr] at hr'
      simp only [Result.ok.injEq] at hr'
      right; rw [hr'.1]; rfl

/-- A string is appended to bytes that one owns. -/
theorem appStr [hC : CtxOk C] {t u ty e : TypeId} {a : Option Addr} {n cap : Nat} {bs : List UInt8} {R : Value → List Chunk → Prop} {ti tu te : TyI} (k : Nat) (s : ByteArray) (hk : lget L k = some (own a cap e 1 encU bs))
    (hn : n = bs.length) (hti : tget C.tab t = some ti) (hkk : ti.k = .slice e) (htu : tget C.tab u = some tu) (hku : tu.k = .string) (hte : tget C.tab e = some te) (hs : te.size = 1) (hby : te.bytes = 1) (hz : ∀ w, (zeroValue e).run C.P w = .ok (.int .u8 0) w)
    (hb : bs.length + s.size ≤ 140737488355328) (hR : ∀ a' cap', (0 < s.size → ∃ g, a' = some ⟨g, 0, none⟩ ∧ (bs ++ s.data.toList).length ≤ cap') → R (.slice a' (bs ++ s.data.toList).length cap') (setL L k (own a' cap' e 1 encU (bs ++ s.data.toList)))) :
    Does C L (Builtin.append_ ⟨[t, u]⟩ ty ⟨[.slice a n cap, .string s]⟩) R := by
  intro w hw
  subst hn
  obtain ⟨T, hT1, hT2⟩ := hw.mem hk
  obtain ⟨d, hd, hkd⟩ := (hC.tab.get hti).und
  rw [hkk] at hkd
  obtain rfl := kOk.slice hkd
  obtain ⟨d', hd', hkd'⟩ := (hC.tab.get htu).und
  rw [hku] at hkd'
  have hd' : C.P.underlying u = some .string := by
    cases d' <;> simp [kOk] at hkd'
    exact hd'
  obtain ⟨d2, inf, z, hu, hinf, hisz, hiby, hz', hzc, hkz⟩ := hC.tab.get hte
  have hzz : inf.zero = some (.int .u8 0) := by
    have h := hz w
    simp [zeroValue, typeInfo, hinf, hz'] at h
    rw [hz', h]
  obtain ⟨v', w', hr, ho, hg, hlie⟩ := run_append_str_lies (P := C.P) w t u ty e inf hd hd' hinf hzz (hisz.trans hs) (hiby.trans hby) (.slice a bs.length cap) bs.length (bs.flatMap encU) hT2 s hb
  have hlen : (bs ++ s.data.toList).length = bs.length + s.size := by simp
  rw [strCells_encU, ← List.flatMap_append] at ho
  obtain ⟨a', cap', rfl⟩ : ∃ a' cap', v' = .slice a' (bs ++ s.data.toList).length cap' := by
    rw [hlen]
    rcases ho.2 with ⟨hv, h0⟩ | ⟨g, cap, cur, hv, _⟩
    · exact ⟨none, 0, by rw [hv, h0]⟩
    · exact ⟨_, _, hv⟩
  refine ⟨_, w', _, hr, hw.turnAt (d := own a' cap' e 1 encU (bs ++ s.data.toList)) hk (fun S1 hS1 hd1 => ?_), hR a' cap' fun hp => ?_⟩
  rotate_left
  · rw [hlen] at ho ⊢
    rcases ho.2 with ⟨_, h0⟩ | ⟨g, cap, cur, hv, _, _, hnc, _⟩
    · omega
    · cases hv; exact ⟨g, rfl, hnc⟩
  refine Inv.one (T := fun k => (Value.slice a' (bs ++ s.data.toList).length cap').ownBlock = some k) ⟨hg.os, hg.tape, hg.output, hg.size, fun b hb hn => hg.block b hb fun he => hn ((hS1.1 b).2 he.symm)⟩ ⟨fun k => Iff.rfl, by rw [hlen]; rw [hlen] at ho; exact ho⟩ fun b hb => ?_
  rcases hlie with h | h
  · exact .inl ((hS1.1 b).2 (h ▸ hb))
  · rw [h] at hb; cases hb; exact .inr (Nat.le_refl _)
/-- Nothing is known. -/
def jk : Chunk where
  sat _ S := ∀ b, ¬ S b
  stab h _ := h
  dom h hb := (h _ hb).elim

theorem sliceDataO {ts : Array TypeId} {ty : TypeId} {g n cap : Nat} (hc : cap ≠ 0) : RunsTo C L (Builtin.unsafeSliceData_ ts ty ⟨[.slice (some ⟨g, 0, none⟩) n cap]⟩) (.pointer (some ⟨g, 0, none⟩)) := fun w _ => Lib.run_unsafeSliceData_row (P := C.P) w ts ty ⟨g, 0, none⟩ n cap hc
theorem sliceDataN {ts : Array TypeId} {ty : TypeId} {n cap : Nat} : RunsTo C L (Builtin.unsafeSliceData_ ts ty ⟨[.slice none n cap]⟩) (.pointer none) := fun w _ => Lib.run_unsafeSliceData_nil (P := C.P) w ts ty n cap
theorem unsafeStrN {pt it ty : TypeId} {R : Value → List Chunk → Prop} (hR : R (.string .empty) L) : Does C L (Builtin.unsafeString_ ⟨[pt, it]⟩ ty ⟨[.pointer none, .int .i64 0]⟩) R := fun w hw => ⟨_, w, L, Lib.run_unsafeString_none (P := C.P) w pt it ty none, hw, hR⟩
theorem unsafeStrO [hC : CtxOk C] {pt it ty e : TypeId} {g n cap : Nat} {bs : List UInt8} {R : Value → List Chunk → Prop} (k : Nat) (hk : lget L k = some (own (some ⟨g, 0, none⟩) cap e 1 encU bs)) (hp : C.P.underlying pt = some (.pointer e)) (hce : C.P.cellsOf e = 1) (hn : n = bs.length) (h0 : bs ≠ []) (h63 : bs.length ≤ 140737488355328)
    (hR : R (.string ⟨bs.toArray⟩) (setL L k jk)) : Does C L (Builtin.unsafeString_ ⟨[pt, it]⟩ ty ⟨[.pointer (some ⟨g, 0, none⟩), .int .i64 n]⟩) R := by
  intro w hw
  subst hn
  obtain ⟨T, hT⟩ := hw.mem hk
  obtain ⟨x, hx⟩ : ∃ x, bs[0]? = some x := by cases bs with | nil => exact absurd rfl h0 | cons x xs => exact ⟨x, rfl⟩
  obtain ⟨g', cur, he, hg, ht⟩ := own_at hT hx
  cases he
  have hcur : bs.length ≤ cur.size := by
    have := congrArg List.length ht
    rw [flat_len (sz := 1) (fun _ _ => rfl)] at this
    simp at this
    omega
  have hr := Lib.run_unsafeString_row (P := C.P) w pt it ty e hp hce g cur.size (by simp [World.shape?, hg]) bs h0 hcur (by omega) fun j y hj => by
    have := own_cell hT (fun _ _ => rfl) hj (j := 0) (v := .int .u8 y.toNat) rfl
    simpa [Addr.add_none] using this
  refine ⟨_, _, _, hr, hw.turnAt (d := jk) hk (fun S1 hS1 hd1 => ?_), hR⟩
  have hS1g : S1 g := (hS1.1 g).2 rfl
  refine Inv.one (T := fun _ => False) ?_ (fun _ h => h) fun b hb => hb.elim
  refine ⟨by simp [World.freeze, h0], by simp [World.freeze, h0], by simp [World.freeze, h0], by simp [World.freeze, h0], fun b hb hn => ?_⟩
  have hne : g ≠ b := fun h => hn (h ▸ hS1g)
  simp [World.freeze, h0, Array.getElem?_modify, hne]
end
end Go.X

/- Regions that draw their order: a front that only reads (or calls what only reads), guards and all, and a chain of operations behind it. -/
namespace Go.X
set_option linter.unusedVariables false
set_option linter.unusedSimpArgs false

def depU (pre : List Oper) (i : Nat) : List Nat := ((pre[i]?).map depsOf).getD []
theorem closB_dep (pre : List Oper) : ∀ n, closB pre (depU pre) n = true
  | 0 => rfl
  | n + 1 => by
    simp only [closB, Bool.and_eq_true]
    refine ⟨?_, closB_dep pre n⟩
    split
    · rename_i o ho
      rw [List.all_eq_true]
      intro j hj
      simp only [depU, ho, Option.map_some, Option.getD_some] at hj
      rw [Bool.or_eq_true]
      exact .inl (by simpa using hj)
    · rfl

theorem wanted_app {pre suf : List Oper} {o : Oper} {tmps : Array Value} (hg : ∀ j b, o.guard = some (j, b) → j < pre.length) : Region.wanted o (yielded (pre ++ suf).toArray tmps) = Region.wanted o (yielded pre.toArray tmps) := by
  unfold Region.wanted
  split
  · rfl
  · rename_i j b hgd
    have hj := hg j b hgd
    have : yielded (pre ++ suf).toArray tmps j = yielded pre.toArray tmps j := by
      unfold yielded
      have : (pre ++ suf).toArray[j]? = pre.toArray[j]? := by simp [List.getElem?_append, hj]
      rw [this]
    rw [this]

theorem wp_region_qchain {P : Program} {C : World → Prop} {id : Nat} {Q' : Exit → Act → World → Prop} {a : Act} {w : World} (hm : P.follows .mixedOrders = true) {pre suf : List Oper} (hb : backB (pre ++ suf) 0 = true) (hch : chainB (pre ++ suf) pre.length suf.length = true)
    (hB : Region.lexB .any pre.toArray = true) {Qa : Act → Prop} (hC : C { w with drawn := w.drawn + 1 }) (h : wpQuiet P pre.toArray C Qa pre a) (hend : ∀ a w, C w → Qa a → wpChain P (pre ++ suf).toArray Q' suf pre.length a w) : (Code.region id (pre ++ suf).toArray true).wp P Q' a w := by
  have hsp := backB_spec hb
  simp only [Region.lexB, Bool.and_eq_true] at hB
  have hq := wpAnyQ_lex (C := C) (md := .any) hB.1 pre 0 (Array.replicate pre.toArray.size false) a (by simp) (by simpa using hB.2) h
  have hbp : backB pre.toArray.toList 0 = true := by
    have key : ∀ (l m : List Oper) (k : Nat), backB (l ++ m) k = true → backB l k = true := by
      intro l m
      induction l with
      | nil => intros; rfl
      | cons x l ih =>
        intro k h
        simp only [List.cons_append, backB, Bool.and_eq_true] at h ⊢
        exact ⟨h.1, ih _ h.2⟩
    simpa using key _ _ _ hb
  refine wp_region_front (u := depU pre) hm hb (closB_dep pre _) hch
    (fun S a w => C w ∧ ∃ (fuel : Nat) (pl : Array Bool), pl.size = pre.length ∧ (∀ i, i < pre.length → pl.getD i false = S i) ∧ wpAnyQ P .any pre.toArray C Qa fuel pl a) ?_ ?_ ?_ ?_
  · rintro S S' a w hS ⟨h1, fuel, pl, h2, h3, h4⟩
    exact ⟨h1, fuel, pl, h2, fun i hi => (h3 i hi).trans (hS i hi), h4⟩
  · exact ⟨hC, pre.length, Array.replicate pre.toArray.size false, by simp, fun i hi => by simp [Array.getD], hq⟩
  · rintro S a w i o ho hs hu ⟨h1, fuel, pl, h2, h3, h4⟩ K' hK'
    have hi : i < pre.length := (List.getElem?_eq_some_iff.1 ho).1
    have hdep : ∀ j ∈ depsOf o, j < pre.length ∧ S j = true := fun j hj => by
      have := (hsp i o (by rw [List.getElem?_append_left hi]; exact ho)).1 j hj
      exact ⟨by omega, hu j (by simp only [depU, ho, Option.map_some, Option.getD_some]; exact hj)⟩
    have hok : okAt o pl = true := okAt_iff.2 fun j hj => by rw [h3 j (hdep j hj).1]; exact (hdep j hj).2
    have hmem : i ∈ Region.ready .any pre.toArray pl := mem_ready.2 ⟨o, by simpa using ho, by rw [getD_tf (by omega), h3 i hi]; exact hs, hok⟩
    cases fuel with
    | zero =>
      have h4 := h4.1
      rw [h4] at hmem; cases hmem
    | succ fuel =>
      have hqq := h4.2 i hmem
      unfold qOp at hqq
      unfold wpOp
      rw [show (pre ++ suf).toArray[i]? = some o by simp [List.getElem?_append_left hi, ho]]
      simp only [show pre.toArray[i]? = some o by simpa using ho] at hqq
      have hgd : ∀ j b, o.guard = some (j, b) → j < pre.length := fun j b hgd => by
        have := (hsp i o (by rw [List.getElem?_append_left hi]; exact ho)).2 j b hgd
        omega
      rw [← wanted_app (suf := suf) hgd] at hqq
      have next : ∀ a w, C w → wpAnyQ P .any pre.toArray C Qa fuel (pl.setIfInBounds i true) a → K' a w := fun a w hw hk => hK' a w ⟨hw, fuel, _, by simpa using h2, fun j hj => by
        rw [getD_set (by omega)]
        by_cases hij : i = j
        · subst hij; simp
        · rw [if_neg hij, h3 j hj]
          have : (j == i) = false := by simp; omega
          simp [this], hk⟩
      dsimp only
      split
      · rename_i hw'
        rw [if_pos hw'] at hqq
        exact .inl (Oper.wp_of_quiet (C := C) h1 (fun a' w' hw'' hk => next a' w' hw'' hk) hqq)
      · rename_i hw'
        rw [if_neg hw'] at hqq
        exact next _ w h1 hqq
  · rintro S a w hS ⟨h1, fuel, pl, h2, h3, h4⟩
    refine hend a w h1 ?_
    have hr : Region.ready .any pre.toArray pl = [] := by
      apply List.eq_nil_iff_forall_not_mem.2
      intro j hj
      obtain ⟨u, hu, hlu, _⟩ := mem_ready.1 hj
      obtain ⟨hlt', _⟩ := Array.getElem?_eq_some_iff.1 hu
      have hlt'' : j < pre.length := by simpa using hlt'
      rw [getD_tf (by omega), h3 j hlt'', hS j hlt''] at hlu
      cases hlu
    cases fuel with
    | zero => exact h4.2
    | succ fuel => exact h4.1 hr

/-- A region that draws: the first n operations only read, the others come one behind the other. -/
theorem drawQ {C : Ctx} [hC : CtxOk C] {ops : List Oper} {e : Env} {L : List Chunk} {K : Env → List Chunk → Prop} (n : Nat) (hok : (backB ops 0 && chainB ops (ops.take n).length (ops.drop n).length && (ops.drop n).all (·.guard.isNone) && Region.lexB .any (ops.take n).toArray) = true)
    (h : XQs C (ops.take n) (fun e L => XSuf C K (ops.drop n) e L) L (ops.take n) [] e) : XDrawS C ops e L K := by
  unfold XDrawS
  intro id Q a w hQ ha hw
  simp only [Bool.and_eq_true] at hok
  obtain ⟨⟨⟨hb, hch⟩, hg⟩, hB⟩ := hok
  have heq : ops.take n ++ ops.drop n = ops := List.take_append_drop n ops
  have key := wp_region_qchain (id := id) (Q' := Q) (a := a) (w := w) (C := Holds C L) hC.mixed (pre := ops.take n) (suf := ops.drop n) (by rw [heq]; exact hb) (by rw [heq]; exact hch) hB (Qa := fun a => ∃ e, ES C.n e a ∧ XSuf C K (ops.drop n) e L) (Inv.drew hw) (XQs.sound hC (fun e a ha hk => ⟨e, ha, hk⟩) (ops.take n) ha h) (by
    rintro a w hw ⟨e, ha, hx⟩
    have hgo : ∀ (suf : List Oper) (k : Nat) {e : Env} {a : Act} {L : List Chunk} {w : World}, ((ops.take n) ++ (ops.drop n)).drop k = suf → (∀ o ∈ suf, o.guard.isNone = true) → ES C.n e a → Holds C L w → XSuf C K suf e L → wpChain C.P ((ops.take n) ++ (ops.drop n)).toArray Q suf k a w := by
      intro suf
      induction suf with
      | nil => intro k e a L w _ _ ha hw h; exact hQ e a L w ha hw h
      | cons o os ih =>
        intro k e a L w hd hgs ha hw h
        have hk : ((ops.take n) ++ (ops.drop n))[k]? = some o := by
          have := congrArg (·[0]?) hd
          simpa using this
        have hd' : ((ops.take n) ++ (ops.drop n)).drop (k + 1) = os := by rw [← List.drop_drop, hd]; rfl
        intro K' hK'
        unfold wpOp
        rw [show ((ops.take n) ++ (ops.drop n)).toArray[k]? = some o by simpa using hk]
        have hgo : o.guard = none := by have := hgs o (by simp); simpa using this
        simp only [Region.wanted, hgo, if_true]
        exact .inl (XOp.sound hC ha (show XOp C o e L fun v L' => XSuf C K os (put C.n e o.dst v) L' from h) K' Q (fun v L' w' hk hh => hK' _ _ (ih (k + 1) hd' (fun o ho => hgs o (by simp [ho])) (ha.put o.dst v) hh hk)) w hw)
    exact hgo (ops.drop n) (ops.take n).length (by simp) (List.all_eq_true.1 hg) ha hw hx)
  rwa [heq] at key
end Go.X
