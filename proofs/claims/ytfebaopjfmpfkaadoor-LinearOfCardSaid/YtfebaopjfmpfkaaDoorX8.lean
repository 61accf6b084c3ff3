/- Rules for memory: blocks known whole, read-only slices. -/
import Derived.Test.YtfebaopjfmpfkaaDoorX7
namespace Go.X
set_option linter.unusedVariables false
set_option linter.unusedSimpArgs false

theorem Sep.mem {w : World} : ∀ {L : List Chunk} {S : FP} {c : Chunk}, Sep L w S → c ∈ L → ∃ T, c.sat w T ∧ ∀ b, T b → S b
  | d :: L, S, c, ⟨S1, S2, h1, h2, hd, hs1, hs2⟩, hm => by
    rcases List.mem_cons.1 hm with rfl | hm
    · exact ⟨S1, h1, hs1⟩
    · obtain ⟨T, hT, hb⟩ := Sep.mem h2 hm; exact ⟨T, hT, fun b hb' => hs2 b (hb b hb')⟩
theorem lget_mem {α : Type} {l : List α} {i : Nat} {a : α} (h : lget l i = some a) : a ∈ l := by rw [lget_eq] at h; exact List.mem_of_getElem? h
theorem Holds.mem {C : Ctx} {L : List Chunk} {w : World} {i : Nat} {c : Chunk} (h : Holds C L w) (hi : lget L i = some c) : ∃ T, c.sat w T :=
  let ⟨_, S, hS, _⟩ := h; let ⟨T, hT, _⟩ := hS.mem (lget_mem hi); ⟨T, hT⟩

theorem cell_of_block {w : World} {b : Nat} {cs : List Value} {ty : TypeId} (h : w.heap[b]? = some (.cells cs.toArray ty (0, 0))) (i : Nat) : w.cell? ⟨b, i, none⟩ = cs[i]? := by
  simp [World.cell?, h]

theorem Addr.add_none (b o n : Nat) : (⟨b, o, none⟩ : Addr).add n = ⟨b, o + n, none⟩ := by
  unfold Addr.add; split
  · rename_i h; subst h; rfl
  · rfl

/-- A cell reads as v wherever the chunks hold. -/
def Rdb (C : Ctx) (L : List Chunk) (b off : Nat) (v : Value) : Prop := ∀ w, Holds C L w → w.cell? ⟨b, off, none⟩ = some v

theorem Rdb.pt {C : Ctx} {L : List Chunk} {b off : Nat} {v : Value} (i : Nat) {cs : List Value} {ty : TypeId} (hi : lget L i = some (X.pt b cs ty)) (hv : lget cs off = some v) : Rdb C L b off v := by
  intro w hw
  obtain ⟨T, _, hb⟩ := hw.mem hi
  rw [cell_of_block hb, ← lget_eq, hv]

theorem Rdb.roPt {C : Ctx} {L : List Chunk} {b off : Nat} {v : Value} {cs : List Value} {ty : TypeId} (h : RO C.w0 C.S0 (X.pt b cs ty)) (hv : lget cs off = some v) : Rdb C L b off v := by
  intro w hw
  obtain ⟨T, ⟨_, hb⟩, _⟩ := h.now hw.1
  rw [cell_of_block hb, ← lget_eq, hv]

theorem RunsTo.load1 {C : Ctx} [hC : CtxOk C] {L : List Chunk} {t : TypeId} {b off : Nat} {v : Value} (ht : aggOf C.tab t = some false) (h : Rdb C L b off v) : RunsTo C L (Instr.loadAt t (.pointer (some ⟨b, off, none⟩))) v := by
  intro w hw
  have := run_isAgg' (w := w) hC.tab ht
  simp [Instr.loadAt, Instr.sureAddr, loadVar, this, h w hw]

theorem run_loadCellsFrom {P : Program} {w : World} {b off : Nat} : ∀ (vs : List Value) (i : Nat) (acc : Array Value), (∀ j v, vs[j]? = some v → w.cell? ⟨b, off + (i + j), none⟩ = some v) →
    (loadCellsFrom ⟨b, off, none⟩ i vs.length acc).run P w = .ok (acc ++ vs.toArray) w
  | [], i, acc, _ => by simp [loadCellsFrom]
  | v :: vs, i, acc, h => by
    have h0 := h 0 v rfl
    have := run_loadCellsFrom (P := P) vs (i + 1) (acc.push v) fun j u hu => by
      have := h (j + 1) u (by simpa using hu)
      rwa [show i + (j + 1) = i + 1 + j by omega] at this
    simp only [List.length_cons, loadCellsFrom, Addr.add_none, Sem.run_bind, run_load]
    rw [show off + i = off + (i + 0) by rfl, h0]
    simp only [Result.andThen_ok, this]
    simp

theorem RunsTo.loadN {C : Ctx} [hC : CtxOk C] {L : List Chunk} {t : TypeId} {b off : Nat} {vs : List Value} {ti : TyI} (ht : aggOf C.tab t = some true) (hti : tget C.tab t = some ti) (hn : vs.length = ti.size)
    (h : ∀ j v, vs[j]? = some v → Rdb C L b (off + j) v) : RunsTo C L (Instr.loadAt t (.pointer (some ⟨b, off, none⟩))) (.agg ⟨vs⟩) := by
  intro w hw
  have h1 := run_isAgg' (w := w) hC.tab ht
  have h2 := run_sizeOf' (w := w) (hC.tab.get hti)
  have h3 := run_loadCellsFrom (P := C.P) (w := w) (b := b) (off := off) vs 0 #[] fun j v hj => by simpa using h j v hj w hw
  simp only [Instr.loadAt, Instr.sureAddr, Sem.run_bind, Sem.run_pure, Result.andThen_ok, loadVar, h1, if_true, h2, ← hn, loadCells, h3]
  simp

/-- Load a cell of block number i of the chunks. -/
theorem ld {C : Ctx} [hC : CtxOk C] {L : List Chunk} {t : TypeId} {b off : Nat} {v : Value} (i : Nat) {cs : List Value} {ty : TypeId} (hi : lget L i = some (pt b cs ty)) (hv : lget cs off = some v) (ht : aggOf C.tab t = some false) :
    RunsTo C L (Instr.loadAt t (.pointer (some ⟨b, off, none⟩))) v := .load1 ht (.pt i hi hv)
theorem ldA {C : Ctx} [hC : CtxOk C] {L : List Chunk} {t : TypeId} {b off : Nat} (i : Nat) {cs vs : List Value} {ty : TypeId} {ti : TyI} (hi : lget L i = some (pt b cs ty)) (ht : aggOf C.tab t = some true) (hti : tget C.tab t = some ti)
    (hv : takeL ti.size (dropL off cs) = vs) (hn : vs.length = ti.size) : RunsTo C L (Instr.loadAt t (.pointer (some ⟨b, off, none⟩))) (.agg ⟨vs⟩) :=
  .loadN ht hti hn fun j v hj => .pt i hi (by
    subst hv
    rw [takeL_eq, dropL_eq] at hj
    rw [lget_eq]
    rw [List.getElem?_take] at hj
    split at hj
    · rwa [List.getElem?_drop] at hj
    · cases hj)

/-! ### stores -/
def setL {α : Type} : List α → Nat → α → List α
  | [], _, _ => []
  | _ :: l, 0, a => a :: l
  | b :: l, i + 1, a => b :: setL l i a
theorem setL_takeAt : ∀ {L : List Chunk} {i : Nat} {c d : Chunk}, lget L i = some c → ∃ M, L.Perm (c :: M) ∧ (d :: M).Perm (setL L i d)
  | _ :: L, 0, c, d, h => by simp [lget] at h; subst h; exact ⟨L, .refl _, .refl _⟩
  | x :: L, i + 1, c, d, h => by
    obtain ⟨M, h1, h2⟩ := setL_takeAt (d := d) (L := L) (i := i) (by simpa [lget] using h)
    exact ⟨x :: M, (List.Perm.cons x h1).trans (.swap _ _ _), (List.Perm.swap _ _ _).trans (List.Perm.cons x h2)⟩

/-- One chunk turns in place. -/
theorem Holds.turnAt {C : Ctx} {L : List Chunk} {w w' : World} {i : Nat} {c d : Chunk} (h : Holds C L w) (hi : lget L i = some c) (hc : ∀ S1, c.sat w S1 → (∀ b, S1 b → b < w.heap.size) → Inv w S1 [d] w') : Holds C (setL L i d) w' := by
  obtain ⟨M, h1, h2⟩ := setL_takeAt (d := d) hi
  exact Inv.perm h2 (Inv.turn (M := [d]) (Inv.perm h1 h) hc)

theorem Inv.one {w w' : World} {S : FP} {d : Chunk} {T : FP} (hf : Fr w S w') (hd : d.sat w' T) (hT : ∀ b, T b → S b ∨ w.heap.size ≤ b) : Inv w S [d] w' :=
  ⟨hf, T, ⟨T, fun _ => False, hd, trivial, fun _ _ h => h, fun _ h => h, fun _ h => h.elim⟩, fun b hb => ⟨d.dom hd hb, hT b hb⟩⟩

theorem Fr.setCells {w : World} {b : Nat} {S : FP} (hS : S b) {h' : Array Obj} (hs : h'.size = w.heap.size) (hb : ∀ k, k ≠ b → h'[k]? = w.heap[k]?) : Fr w S { w with heap := h' } :=
  ⟨rfl, rfl, rfl, by simp [hs], fun k _ hk => hb k fun he => hk (he ▸ hS)⟩

theorem run_storeCells {P : Program} {b : Nat} {ty : TypeId} : ∀ (vs : List Value) (w : World) (cs : List Value) (off i : Nat), (∀ v ∈ vs, v.oneCell' = true) → off + i + vs.length ≤ cs.length → w.heap[b]? = some (.cells cs.toArray ty (0, 0)) →
    ∃ w', (storeCells ⟨b, off, none⟩ vs i).run P w = .ok () w' ∧ w'.heap[b]? = some (.cells (over cs (off + i) vs).toArray ty (0, 0)) ∧ w'.heap.size = w.heap.size ∧ (∀ k, k ≠ b → w'.heap[k]? = w.heap[k]?) ∧ w'.os = w.os ∧ w'.tape = w.tape ∧ w'.output = w.output
  | [], w, cs, off, i, _, _, hb => ⟨w, by simp [storeCells], by simpa [over] using hb, rfl, fun _ _ => rfl, rfl, rfl, rfl⟩
  | v :: vs, w, cs, off, i, h1, hlen, hb => by
    simp at hlen
    have hcell : w.cell? ⟨b, off + i, none⟩ = some cs[off + i] := by rw [cell_of_block hb]; simp [show off + i < cs.length by omega]
    have hfr : w.frozen? ⟨b, off + i, none⟩ = false := by simp [World.frozen?, hb]
    have hb' : (w.setCell ⟨b, off + i, none⟩ v).heap[b]? = some (.cells (cs.set (off + i) v).toArray ty (0, 0)) := by
      simp [World.setCell, Array.getElem?_modify, hb]
    obtain ⟨w', r1, r2, r3, r4, r5, r6, r7⟩ := run_storeCells (P := P) vs (w.setCell ⟨b, off + i, none⟩ v) (cs.set (off + i) v) off (i + 1) (fun u hu => h1 u (by simp [hu])) (by simp; omega) hb'
    refine ⟨w', ?_, ?_, by rw [r3]; simp, fun k hk => ?_, r5, r6, r7⟩
    · simp only [storeCells, Addr.add_none, Sem.run_bind, run_store P w _ v .plain (h1 v (by simp)), hcell, hfr, Bool.false_eq_true, if_false, Result.andThen_ok, r1]
    · rw [r2]
      have key : ∀ (l : List Value) (j : Nat), over (l.set j v) (j + 1) vs = over l j (v :: vs) := by
        intro l
        induction l with
        | nil => intro j; cases vs <;> simp [over]
        | cons a l ih =>
          intro j
          cases j with
          | zero => cases vs <;> simp [over]
          | succ j =>
            have := ih j
            cases vs with
            | nil => simp only [List.set_cons_succ, over] at this ⊢; rw [this]
            | cons u vs => simp only [List.set_cons_succ, over] at this ⊢; rw [this]
      rw [show off + (i + 1) = off + i + 1 by omega, key]
    · rw [r4 k hk]; exact RowKit.Below.heap_setCell _ _ _ _ hk

/-- Store into block number i of the chunks. -/
theorem st {C : Ctx} [hC : CtxOk C] {L : List Chunk} {t : TypeId} {b off : Nat} {v : Value} {R : Unit → List Chunk → Prop} (i : Nat) {cs : List Value} {ty : TypeId} {ti : TyI} (hi : lget L i = some (pt b cs ty)) (hti : tget C.tab t = some ti)
    (hn : (cellsL v).length = ti.size) (h1 : (cellsL v).all Value.oneCell' = true) (hlen : Nat.ble (off + ti.size) cs.length = true) (hR : forceL (over cs off (cellsL v)) fun cs' => R () (setL L i (pt b cs' ty))) : Does C L (Instr.storeAt t (.pointer (some ⟨b, off, none⟩)) v) R := by
  intro w hw
  have hR := forceL_out hR
  obtain ⟨T, hT, hb⟩ := hw.mem hi
  have hle : off + ti.size ≤ cs.length := by simpa using hlen
  have hall : ∀ u ∈ cellsL v, u.oneCell' = true := List.all_eq_true.1 h1
  obtain ⟨w', r1, r2, r3, r4, r5, r6, r7⟩ := run_storeCells (P := C.P) (cellsL v) w cs off 0 hall (by omega) hb
  have hsz := run_sizeOf' (w := w) (hC.tab.get hti)
  refine ⟨(), w', _, ?_, ?_, hR⟩
  · have e1 : v.cells.size = ti.size := by rw [cellsL_eq]; simpa using hn
    have e2 : v.cells.toList = cellsL v := by rw [cellsL_eq]
    simp only [Instr.storeAt, Instr.sureAddr, Sem.run_bind, Sem.run_pure, Result.andThen_ok, storeVar, hsz, e1, ne_eq, not_true_eq_false, if_false, e2]
    exact r1
  · refine hw.turnAt hi fun S1 hs hd => ?_
    have hS1 : S1 b := (hs.1 b).2 rfl
    refine Inv.one (T := S1) ⟨r5, r6, r7, by omega, fun k _ hk => r4 k fun he => hk (he ▸ hS1)⟩ ⟨hs.1, ?_⟩ fun _ h => .inl h
    simpa using r2

/-! ### slices that are only read -/
/-- The slice's address A, and what its elements are: each of sz cells. -/
def roS {α : Type} (A : Option Addr) (sz : Nat) (enc : α → List Value) (xs : List α) : Chunk where
  sat w S := (∀ k, S k ↔ ∃ a, A = some a ∧ k = a.block ∧ xs ≠ []) ∧ (xs ≠ [] → 0 < sz) ∧ (∀ x ∈ xs, (enc x).length = sz) ∧
    (xs ≠ [] → ∃ b o, A = some ⟨b, o, none⟩ ∧ ∀ i x, xs[i]? = some x → ∀ j v, (enc x)[j]? = some v → w.cell? ⟨b, o + (i * sz + j), none⟩ = some v)
  stab {w w' S} h hk := ⟨h.1, h.2.1, h.2.2.1, fun hne => by
    obtain ⟨b, o, rfl, hc⟩ := h.2.2.2 hne
    refine ⟨b, o, rfl, fun i x hi j v hj => ?_⟩
    have := hk b ((h.1 b).2 ⟨_, rfl, rfl, hne⟩)
    rw [World.cell?_of_block (w := w) (w' := w') this]
    exact hc i x hi j v hj⟩
  dom {w S b} h hb := by
    obtain ⟨a, rfl, rfl, hne⟩ := (h.1 b).1 hb
    obtain ⟨b, o, he, hc⟩ := h.2.2.2 hne
    cases he
    obtain ⟨x, xs', rfl⟩ : ∃ x xs', xs = x :: xs' := by cases xs with | nil => exact absurd rfl hne | cons x xs' => exact ⟨x, xs', rfl⟩
    have hl := h.2.2.1 x (by simp)
    have h0 := h.2.1 hne
    obtain ⟨v, hv⟩ : ∃ v, (enc x)[0]? = some v := by
      cases he : enc x with
      | nil => simp [he] at hl; omega
      | cons v l => exact ⟨v, rfl⟩
    exact World.block_lt_of_cell? w ⟨b, o + (0 * sz + 0), none⟩ (hc 0 x rfl 0 v hv)

theorem roS_at {α : Type} {w : World} {S : FP} {A : Option Addr} {sz : Nat} {enc : α → List Value} {xs : List α} (h : RO w S (roS A sz enc xs)) (hne : 0 < xs.length) : ∃ b o, A = some ⟨b, o, none⟩ := by
  obtain ⟨T, ⟨_, _, _, hc⟩, _⟩ := h
  obtain ⟨b, o, h, _⟩ := hc (by intro h; simp [h] at hne)
  exact ⟨b, o, h⟩

theorem Rdb.ro {α : Type} {C : Ctx} {L : List Chunk} {b o off sz i j : Nat} {enc : α → List Value} {xs : List α} {x : α} {v : Value} (h : RO C.w0 C.S0 (roS (some ⟨b, o, none⟩) sz enc xs))
    (hi : xs[i]? = some x) (hj : (enc x)[j]? = some v) (hoff : off = o + (i * sz + j)) : Rdb C L b off v := by
  intro w hw
  obtain ⟨T, ⟨_, _, _, hc⟩, _⟩ := h.now hw.1
  obtain ⟨b', o', he, hc⟩ := hc (by intro h; simp [h] at hi)
  cases he
  rw [hoff]
  exact hc i x hi j v hj
/-- Load a field of an element. -/
theorem ldR {α : Type} {C : Ctx} [hC : CtxOk C] {L : List Chunk} {t : TypeId} {b o off sz : Nat} {enc : α → List Value} {xs : List α} {x : α} {v : Value} (h : RO C.w0 C.S0 (roS (some ⟨b, o, none⟩) sz enc xs)) (i j : Nat)
    (hi : xs[i]? = some x) (hj : lget (enc x) j = some v) (ht : aggOf C.tab t = some false) (hoff : off = o + (i * sz + j)) : RunsTo C L (Instr.loadAt t (.pointer (some ⟨b, off, none⟩))) v :=
  .load1 ht (.ro h hi (by rw [← lget_eq]; exact hj) hoff)
/-- Load a whole element. -/
theorem ldRA {α : Type} {C : Ctx} [hC : CtxOk C] {L : List Chunk} {t : TypeId} {b o off sz : Nat} {enc : α → List Value} {xs : List α} {x : α} {ti : TyI} (h : RO C.w0 C.S0 (roS (some ⟨b, o, none⟩) sz enc xs)) (i : Nat)
    (hi : xs[i]? = some x) (ht : aggOf C.tab t = some true) (hti : tget C.tab t = some ti) (hn : (enc x).length = ti.size) (hoff : off = o + i * sz) : RunsTo C L (Instr.loadAt t (.pointer (some ⟨b, off, none⟩))) (.agg ⟨enc x⟩) :=
  .loadN ht hti hn fun j v hj => .ro h hi hj (by omega)

theorem Does.ent {α : Type} {C : Ctx} {L M : List Chunk} {s : Sem α} {R : α → List Chunk → Prop} (h : Ent L M) (hd : Does C M s R) : Does C L s R := fun w hw => hd w (h _ _ _ hw)
theorem RunsTo.ent {C : Ctx} {L M : List Chunk} {s : Sem Value} {v : Value} (h : Ent L M) (hd : RunsTo C M s v) : RunsTo C L s v := fun w hw => hd w (h _ _ _ hw)

/-! ### loops -/
/-- What holds at a loop's head: of some state s of the loop, with measure n. -/
def LoopInv {σ : Type} (E : σ → Env) (H : σ → List Chunk) (p : σ → Prop) (μ : σ → Nat) : Nat → Env → List Chunk → Prop := fun n e L => ∃ s, n = μ s ∧ p s ∧ e = E s ∧ L = H s
/-- A loop, by what it goes round with: slots, chunks, a condition, a measure. -/
theorem loopI {F : Env → List Chunk → (Env → List Chunk → Prop) → Prop} {e : Env} {L : List Chunk} {σ : Type} (E : σ → Env) (H : σ → List Chunk) (p : σ → Prop) (μ : σ → Nat) (s0 : σ)
    (hE : Le (E s0) e) (hH : Ent L (H s0)) (hp : p s0)
    (hr : ∀ s, p s → F (E s) (H s) (fun e L => ∃ m, m < μ s ∧ At (LoopInv E H p μ) m e L)) : XLoop F e L := by
  unfold XLoop
  refine ⟨LoopInv E H p μ, ⟨μ s0, E s0, H s0, hE, hH, s0, rfl, hp, rfl, rfl⟩, ?_⟩
  rintro _ _ _ ⟨s, rfl, hp, rfl, rfl⟩
  exact hr s hp
/-- The round's end. -/
theorem backI {e : Env} {L : List Chunk} {σ : Type} {E : σ → Env} {H : σ → List Chunk} {p : σ → Prop} {μ : σ → Nat} {N : Nat} (s' : σ) (hm : μ s' < N) (hp : p s') (hE : Le (E s') e) (hH : Ent L (H s')) :
    ∃ m, m < N ∧ At (LoopInv E H p μ) m e L := ⟨μ s', hm, E s', _, hE, hH, s', rfl, hp, rfl, rfl⟩

@[simp] theorem packV_one (v : Value) : packV [v] = v := rfl
@[simp] theorem packV_two (u v : Value) : packV [u, v] = .tuple #[u, v] := rfl

/-! ### arithmetic that does not wrap -/
theorem wrap_i64 {x : Int} (h1 : -9223372036854775808 ≤ x) (h2 : x ≤ 9223372036854775807) : x = IntKind.i64.wrap x := (IntWalk.i64_in x ⟨h1, h2⟩).symm

end Go.X
