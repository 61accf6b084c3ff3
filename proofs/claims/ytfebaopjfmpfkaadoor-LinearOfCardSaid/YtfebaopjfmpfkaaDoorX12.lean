/- Slices written out; library calls by the kit's contracts. -/
import Derived.Test.YtfebaopjfmpfkaaDoorX11
namespace Go.X
set_option linter.unusedVariables false
set_option linter.unusedSimpArgs false

/-- The parts, each put over its place. -/
def bldL (sz : Nat) : List Value → List (Nat × Value) → Option (List Value)
  | cs, [] => some cs
  | cs, (i, v) :: r => match Nat.beq (cellsL v).length sz && Nat.ble (i * sz + sz) cs.length with
    | true => bldL sz (over cs (i * sz) (cellsL v)) r
    | false => none

theorem fill_bld {sz : Nat} : ∀ (parts : List (Nat × Value)) (cs out : List Value), bldL sz cs parts = some out → Instr.fill (fun i => some (i * sz, sz)) cs.toArray parts = some out.toArray
  | [], cs, out, h => by simp [bldL] at h; subst h; rfl
  | (i, v) :: r, cs, out, h => by
    simp only [bldL] at h
    split at h
    · rename_i hb
      simp only [Bool.and_eq_true] at hb
      have h1 : (cellsL v).length = sz := Nat.eq_of_beq_eq_true hb.1
      have h2 : i * sz + sz ≤ cs.length := Nat.le_of_ble_eq_true hb.2
      simp only [Instr.fill]
      have hsz : v.cells.size = sz := by rw [cellsL_eq]; simpa using h1
      rw [if_neg (by simp [hsz]; omega)]
      have hfold := over_foldl (cellsL v) cs (i * sz) 0
      rw [cellsL_eq v, ← Array.foldl_toList, Array.toList_zipIdx]
      show Instr.fill _ (((cellsL v).zipIdx).foldl (fun cs (x : Value × Nat) => cs.setIfInBounds (i * sz + x.2) x.1) cs.toArray) r = _
      rw [hfold]
      exact fill_bld r _ out h
    · cases h

/-- A slice is written out. -/
theorem bldS {C : Ctx} [hC : CtxOk C] {L : List Chunk} {t et : TypeId} {len : Nat} {l : List (Nat × Value)} {R : Value → List Chunk → Prop} {ti te : TyI} {cs : List Value} (cs0 : List Value) (hti : tget C.tab t = some ti) (hk : ti.k = .slice et) (hte : tget C.tab et = some te)
    (hsz : Nat.ble (len * te.size) (2 ^ 24) = true) (hpos : Nat.beq (len * te.size) 0 = false) (h0 : (Array.range (len * te.size)).map (te.zero.toArray[· % te.zero.toArray.size]!) = cs0.toArray) (hf : bldL te.size cs0 l = some cs)
    (hR : ∀ b, R (.slice (some ⟨b, 0, none⟩) len len) (pt b cs et :: L)) : Does C L (Instr.buildSlice t len ⟨l⟩) R := by
  intro w hw
  obtain ⟨d, hd, hkd⟩ := (hC.tab.get hti).und
  rw [hk] at hkd
  obtain rfl := kOk.slice hkd
  have hs := run_sizeOf' (w := w) (hC.tab.get hte)
  obtain ⟨z, hz, hzc⟩ := run_zero' (w := w) (hC.tab.get hte)
  have hsz' : ¬ len * te.size > 2 ^ 24 := by have := Nat.le_of_ble_eq_true hsz; omega
  have hpos' : ¬ len * te.size = 0 := fun h => by rw [h] at hpos; cases hpos
  have hfill := fill_bld l cs0 cs hf
  refine ⟨_, w.alloc (.cells cs.toArray et (0, 0)), _, ?_, hw.alloc _ (c := pt w.heap.size cs et) ⟨fun _ => Iff.rfl, ?_⟩, hR w.heap.size⟩
  · simp only [Instr.buildSlice, Sem.run_bind, run_underlying' hd, Result.andThen_ok, hs, if_neg hsz', if_neg hpos', hz, hzc, h0, hfill, newRow, run_newObj, Sem.run_pure]
    rfl
  · show (w.heap.push _)[w.heap.size]? = _
    simp

/-- A call, behind a change of what the chunks are seen as. -/
theorem callE {C : Ctx} {L : List Chunk} {f : FuncId} {args : List Value} {K : Value → List Chunk → Prop} (A B : List Chunk) {Post : Value → List Chunk → Prop} (hE : Ent L (A ++ B))
    (hc : ∀ w S, (∀ r, RO C.w0 C.S0 r → RO w S r) → (∀ r ∈ B, RO w S r) → Sep A w S → (∀ b, S b → b < w.heap.size) → Trip C.P f ⟨args⟩ w S Post)
    (hk : ∀ v L', Post v L' → K v (L' ++ B)) : CallX C L f args K := by
  unfold CallX
  exact ⟨A, B, Post, hE, fun w S h1 h2 h3 h4 => .inr (hc w S h1 h2 h3 h4), hk⟩

/-! ### contracts of the library -/
theorem Inv.below {w w' : World} {S : FP} (h : RowKit.Below w.heap.size w w') : Inv w S [] w' :=
  ⟨⟨h.os, h.tape, h.output, h.size, fun b hb _ => h.block b hb⟩, fun _ => False, trivial, fun _ h => h.elim⟩
theorem Inv.below1 {w w' : World} {S T : FP} {c : Chunk} (h : RowKit.Below w.heap.size w w') (hc : c.sat w' T) (hT : ∀ b, T b → w.heap.size ≤ b) : Inv w S [c] w' :=
  Inv.one (T := T) ⟨h.os, h.tape, h.output, h.size, fun b hb _ => h.block b hb⟩ hc fun b hb => .inr (hT b hb)
end Go.X
