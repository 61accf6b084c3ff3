/- Slices that nobody writes to any more lie in a pool; contracts with what is not touched; slices that are made. -/
import Derived.Test.YtfebaopjfmpfkaaDoorX23
import Derived.Laws.MakeOwn
namespace Go.X
set_option linter.unusedVariables false
set_option linter.unusedSimpArgs false

/-- A slice in a pool: where it begins, the type of its elements, its cells. -/
structure Itm where
  a : Option Addr
  e : TypeId
  cells : List Value
def Itm.sat (it : Itm) (w : World) : Prop := match it.a with
  | none => it.cells = []
  | some ad => ∃ g cur, ad = ⟨g, 0, none⟩ ∧ w.heap[g]? = some (.cells cur it.e (0, 0)) ∧ cur.toList.take it.cells.length = it.cells
theorem itm_some {it : Itm} {w : World} {ad : Addr} (h : it.sat w) (ha : it.a = some ad) : ∃ g cur, ad = ⟨g, 0, none⟩ ∧ w.heap[g]? = some (.cells cur it.e (0, 0)) ∧ cur.toList.take it.cells.length = it.cells := by
  unfold Itm.sat at h
  rw [ha] at h
  exact h
def pool (l : List Itm) : Chunk where
  sat w S := (∀ b, S b ↔ ∃ it ∈ l, ∃ ad, it.a = some ad ∧ ad.block = b) ∧ ∀ it ∈ l, it.sat w
  stab {w w' S} h hk := ⟨h.1, fun it hit => by
    have := h.2 it hit
    unfold Itm.sat at this ⊢
    split
    · rename_i ha; rw [ha] at this; exact this
    · rename_i ad ha
      rw [ha] at this
      obtain ⟨g, cur, rfl, hg, ht⟩ := this
      exact ⟨g, cur, rfl, (hk g ((h.1 g).2 ⟨it, hit, _, ha, rfl⟩)).trans hg, ht⟩⟩
  dom {w S b} h hb := by
    obtain ⟨it, hit, ad, ha, rfl⟩ := (h.1 b).1 hb
    obtain ⟨g, cur, rfl, hg, _⟩ := itm_some (h.2 it hit) ha
    exact (Array.getElem?_eq_some_iff.1 hg).1

theorem pool_nil {L : List Chunk} : Ent L (pool [] :: L) := .free fun w => ⟨fun b => by simp, fun it h => by cases h⟩
theorem pool_sub {l l' : List Itm} {L : List Chunk} (h : ∀ it ∈ l', it ∈ l) : Ent (pool l :: L) (pool l' :: L) :=
  .conv fun w T hT => ⟨fun b => ∃ it ∈ l', ∃ ad, it.a = some ad ∧ ad.block = b, ⟨fun b => Iff.rfl, fun it hit => hT.2 it (h it hit)⟩, fun b ⟨it, hit, ad, h1, h2⟩ => (hT.1 b).2 ⟨it, h it hit, ad, h1, h2⟩⟩
theorem pool_add {α : Type} {a : Option Addr} {cap : Nat} {e : TypeId} {sz : Nat} {enc : α → List Value} {xs : List α} {l : List Itm} {L : List Chunk} : Ent (own a cap e sz enc xs :: pool l :: L) (pool (⟨a, e, xs.flatMap enc⟩ :: l) :: L) := by
  rintro w0 S0 w ⟨hf, S, ⟨S1, S2, h1, ⟨S3, S4, h3, h4, d2, s3, s4⟩, d1, s1, s2⟩, hb⟩
  refine ⟨hf, S, ⟨fun b => S1 b ∨ S3 b, S4, ⟨fun b => ?_, fun it hit => ?_⟩, h4, fun b hb => ?_, fun b hb => ?_, fun b hb => s2 b (s4 b hb)⟩, hb⟩
  · show (S1 b ∨ S3 b) ↔ _
    rw [h1.1 b, h3.1 b]
    constructor
    · rintro (h | ⟨it, hit, ad, h, h'⟩)
      · cases a with
        | none => simp [Value.ownBlock] at h
        | some ad => exact ⟨⟨some ad, e, xs.flatMap enc⟩, List.mem_cons.2 (.inl rfl), ad, rfl, by simpa [Value.ownBlock] using h⟩
      · exact ⟨it, List.mem_cons.2 (.inr hit), ad, h, h'⟩
    · rintro ⟨it, hit, ad, h, h'⟩
      rcases List.mem_cons.1 hit with rfl | hit
      · left
        simp only at h
        subst h
        simpa [Value.ownBlock] using h'
      · exact .inr ⟨it, hit, ad, h, h'⟩
  · rcases List.mem_cons.1 hit with rfl | hit
    · unfold Itm.sat
      obtain ⟨_, hl, h | ⟨g, c, cur, he, _, hg, hn, _, hcs, ht⟩⟩ := h1
      · simp only [Value.slice.injEq] at h
        obtain ⟨⟨rfl, _⟩, h0⟩ := h
        have : xs = [] := List.eq_nil_of_length_eq_zero h0
        subst this
        rfl
      · cases he
        refine ⟨g, cur, rfl, hg, ?_⟩
        show cur.toList.take (xs.flatMap enc).length = _
        rw [hl]; exact ht
    · exact h3.2 it hit
  · rcases hb with hb | hb
    · exact fun h => d1 b hb (s4 b h)
    · exact d2 b hb
  · exact hb.elim (s1 b) fun hb => s2 b (s3 b hb)

/-- What lies in a pool may be read. -/
theorem RO.pool {α : Type} {w : World} {S : FP} {l : List Itm} {it : Itm} {sz : Nat} {enc : α → List Value} {xs : List α} (h : RO w S (X.pool l)) (hm : it ∈ l) (hc : it.cells = xs.flatMap enc) (hl : ∀ x ∈ xs, (enc x).length = sz) (hsz : 0 < sz) : RO w S (roS it.a sz enc xs) := by
  obtain ⟨T, ⟨h1, h2⟩, hd⟩ := h
  have hs := h2 it hm
  refine ⟨fun k => ∃ b, it.a = some b ∧ k = b.block ∧ xs ≠ [], ⟨fun k => Iff.rfl, fun _ => hsz, hl, fun hne => ?_⟩, ?_⟩
  · cases ha : it.a with
    | none =>
      unfold Itm.sat at hs
      rw [ha] at hs
      simp only at hs
      have hfl := flat_len hl
      rw [← hc, hs] at hfl
      simp at hfl
      exact absurd (List.eq_nil_of_length_eq_zero ((Nat.mul_eq_zero.1 hfl.symm).resolve_right (by omega))) hne
    | some ad =>
      obtain ⟨g, cur, rfl, hg, ht⟩ := itm_some hs ha
      refine ⟨g, 0, rfl, fun i x hi j v hj => ?_⟩
      rw [hc, flat_len hl] at ht
      have hjs : j < sz := by
        have := hl x (List.mem_of_getElem? hi)
        rcases Nat.lt_or_ge j sz with h | h
        · exact h
        · rw [List.getElem?_eq_none (by omega)] at hj; cases hj
      have hf := flat_get hl hi hjs
      rw [hj, ← ht, List.getElem?_take] at hf
      rw [Nat.zero_add]
      split at hf
      · simp only [World.cell?, hg, Bool.false_eq_true, if_false]
        simpa using hf
      · cases hf
  · rintro k ⟨b, ha, rfl, hne⟩
    exact hd _ ((h1 _).2 ⟨it, hm, b, ha, rfl⟩)
theorem lie_pool {α : Type} {C : Ctx} {L : List Chunk} {w : World} {l : List Itm} {it : Itm} {sz : Nat} {enc : α → List Value} {xs : List α} (j : Nat) (hj : lget L j = some (pool l)) (hm : it ∈ l) (hc : it.cells = xs.flatMap enc) (hl : ∀ x ∈ xs, (enc x).length = sz) (hsz : 0 < sz) (hw : Holds C L w) : LieAt w it.a sz enc xs := by
  obtain ⟨T, hT⟩ := hw.mem hj
  obtain ⟨T', ⟨_, _, _, h⟩, _⟩ := RO.pool (S := fun _ => False) ⟨T, hT, fun _ _ h => h⟩ hm hc hl hsz
  exact h

section
variable {α : Type} {C : Ctx} {L : List Chunk} {e : TypeId} {sz cap : Nat} {enc : α → List Value} {xs : List α}
theorem Rdb.lie {A : Option Addr} {b i j off : Nat} {x : α} {v : Value} (hs : ∀ w, Holds C L w → LieAt w A sz enc xs) (hA : A = some ⟨b, 0, none⟩) (hi : xs[i]? = some x) (hj : (enc x)[j]? = some v) (hoff : off = i * sz + j) : Rdb C L b off v := by
  intro w hw
  obtain ⟨b', o, he, hc⟩ := hs w hw (by intro h; simp [h] at hi)
  rw [hA] at he; cases he
  have := hc i x hi j v hj
  rw [Nat.zero_add] at this
  rw [hoff]; exact this
/-- Load out of what lies there. -/
theorem ldL [hC : CtxOk C] {t : TypeId} {A : Option Addr} {b off : Nat} {x : α} {v : Value} (hs : ∀ w, Holds C L w → LieAt w A sz enc xs) (i j : Nat) (hA : A = some ⟨b, 0, none⟩) (hi : xs[i]? = some x) (hj : lget (enc x) j = some v) (ht : aggOf C.tab t = some false) (hoff : off = i * sz + j) : RunsTo C L (Instr.loadAt t (.pointer (some ⟨b, off, none⟩))) v :=
  .load1 ht (.lie hs hA hi (by rw [← lget_eq]; exact hj) hoff)
theorem ldLA [hC : CtxOk C] {t : TypeId} {A : Option Addr} {b off : Nat} {x : α} {ti : TyI} (hs : ∀ w, Holds C L w → LieAt w A sz enc xs) (i : Nat) (hA : A = some ⟨b, 0, none⟩) (hi : xs[i]? = some x) (ht : aggOf C.tab t = some true) (hti : tget C.tab t = some ti) (hn : (enc x).length = ti.size) (hoff : off = i * sz) : RunsTo C L (Instr.loadAt t (.pointer (some ⟨b, off, none⟩))) (.agg ⟨enc x⟩) :=
  .loadN ht hti hn fun j v hj => .lie hs hA hi hj (by omega)
end

/-! ### contracts with what is not touched -/
theorem Trip.frame {P : Program} {f : FuncId} {args : Array Value} {w : World} {S : FP} {B : List Chunk} {Post : Value → List Chunk → Prop} (h : Trip P f args w (fun _ => False) Post) (hB : Sep B w S) (hd : ∀ b, S b → b < w.heap.size) : Trip P f args w S fun v L => ∃ L0, Post v L0 ∧ L = L0 ++ B := by
  refine ⟨h.1, h.2.mono ?_⟩
  rintro _ w' ⟨v, L, rfl, hP, ⟨hf, T, hT, hb⟩⟩
  refine ⟨v, _, rfl, ⟨L, hP, rfl⟩, ⟨hf.os, hf.tape, hf.output, hf.size, fun b hb _ => hf.blk b hb id⟩, fun b => T b ∨ S b, ?_, fun b h => ?_⟩
  · refine Sep.join hT (hB.stab fun b hb' => hf.blk b (hd b hb') id) (fun b h1 h2 => ?_) (fun _ h => .inl h) (fun _ h => .inr h)
    have := (hb b h1).2.resolve_left id
    have := hd b h2
    omega
  · rcases h with h | h
    · exact ⟨(hb b h).1, .inr ((hb b h).2.resolve_left id)⟩
    · exact ⟨by have := hd b h; have := hf.size; omega, .inl h⟩
theorem Trip.ent {P : Program} {f : FuncId} {args : Array Value} {w : World} {S : FP} {Post Post' : Value → List Chunk → Prop} (h : Trip P f args w S Post) (hp : ∀ v L, Post v L → ∃ L', Post' v L' ∧ Ent L L') : Trip P f args w S Post' :=
  ⟨h.1, h.2.mono fun _ w' ⟨v, L, he, hP, hI⟩ => let ⟨L', h1, h2⟩ := hp v L hP; ⟨v, L', he, h1, h2 _ _ _ hI⟩⟩
/-- What is only read does not hang on what is handed over. -/
theorem RO.mono {w : World} {S S' : FP} {c : Chunk} (h : RO w S c) (hs : ∀ b, S' b → S b) : RO w S' c := let ⟨T, hT, hd⟩ := h; ⟨T, hT, fun b hb hb' => hd b hb (hs b hb')⟩
theorem RO.of_sep {w : World} {S : FP} {L : List Chunk} {c : Chunk} (h : Sep L w S) (hm : c ∈ L) : RO w (fun _ => False) c := let ⟨T, hT, _⟩ := h.mem hm; ⟨T, hT, fun _ _ h => h⟩
end Go.X
namespace Go.X
set_option linter.unusedVariables false
set_option linter.unusedSimpArgs false
section
variable {α : Type} {C : Ctx} {L : List Chunk} {e : TypeId} {sz : Nat} {enc : α → List Value}

theorem made_flat {z : Array Value} {x : α} (hz : z.toList = enc x) (hsz : z.size = sz) (hpos : 0 < sz) (n : Nat) : (madeCells z (n * sz)).toList = (List.replicate n x).flatMap enc := by
  have hlx : (enc x).length = sz := by rw [← hz]; simpa using hsz
  have hl : ∀ y ∈ List.replicate n x, (enc y).length = sz := fun y hy => by rw [(List.mem_replicate.1 hy).2]; exact hlx
  apply List.ext_getElem?
  intro i
  rcases Nat.lt_or_ge i (n * sz) with h | h
  · have hdiv : i / sz < n := (Nat.div_lt_iff_lt_mul hpos).2 h
    have hmod := Nat.mod_lt i hpos
    have hi : i / sz * sz + i % sz = i := by rw [Nat.mul_comm]; exact Nat.div_add_mod i sz
    have hf := flat_get (xs := List.replicate n x) (i := i / sz) (j := i % sz) (x := x) hl (by rw [List.getElem?_replicate, if_pos hdiv]) hmod
    rw [hi] at hf
    rw [hf, ← hz]
    unfold madeCells
    have : i % sz < z.size := by omega
    simp [h, hsz, this]
    rw [getElem!_pos z (i % sz) this, Array.getElem?_eq_getElem this]
  · rw [List.getElem?_eq_none (by simp [madeCells]; omega), List.getElem?_eq_none (by rw [flat_len hl]; simpa using h)]

/-- A slice is made, all zero. -/
theorem mkS [hC : CtxOk C] {t : TypeId} {kl kc : IntKind} {l c : Int} {R : Value → List Chunk → Prop} {ti te : TyI} (n : Nat) (x : α) (hl : l = (n : Int)) (hc : c = (n : Int)) (hti : tget C.tab t = some ti) (hk : ti.k = .slice e) (hte : tget C.tab e = some te) (hs : te.size = sz) (hz : te.zero = enc x) (hzl : te.zero.length = sz) (hpos : 0 < sz)
    (hml : n ≤ maxLen) (hby : te.bytes * n ≤ 281474976710656) (hR : ∀ g, R (.slice (some ⟨g, 0, none⟩) n n) (own (some ⟨g, 0, none⟩) n e sz enc (List.replicate n x) :: L)) : Does C L (Instr.makeSlice t (.int kl l) (.int kc c)) R := by
  intro w hw
  subst hl hc
  obtain ⟨d, hd, hkd⟩ := (hC.tab.get hti).und
  rw [hk] at hkd
  obtain rfl := kOk.slice hkd
  obtain ⟨d2, inf, z, hu, hinf, hisz, hiby, hiz, hzc, _⟩ := hC.tab.get hte
  have hb' : (inf.bytes : Int) * (n : Int) ≤ 281474976710656 := by
    have h : ((inf.bytes * n : Nat) : Int) ≤ 281474976710656 := by rw [hiby]; omega
    rwa [Int.natCast_mul] at h
  have hr := run_make (P := C.P) w t e inf z hd hinf hiz kl kc n n (by omega) (Int.le_refl _) hb' (by simp [maxLen] at hml; omega)
  simp only [Int.toNat_natCast] at hr
  have hzz : z.cells.toList = enc x := by rw [← hz, ← hzc]
  have hzs : z.cells.size = sz := by rw [← hzl, ← hzc]; simp
  have hsize : inf.size = sz := hisz.trans hs
  have hflat := made_flat hzz hzs hpos n
  refine ⟨_, _, _, hr, hw.alloc _ (c := own (some ⟨w.heap.size, 0, none⟩) n e sz enc (List.replicate n x)) ⟨fun k => by simp [Value.ownBlock, eq_comm], ?_⟩, hR w.heap.size⟩
  have hlx : (enc x).length = sz := by rw [← hz]; exact hzl
  have hlen : ((List.replicate n x).flatMap enc).length = n * sz := by
    rw [flat_len (sz := sz) (fun y hy => (List.mem_replicate.1 hy).2 ▸ hlx), List.length_replicate]
  rw [hsize, List.length_replicate]
  refine ⟨by rw [hlen], .inr ⟨w.heap.size, n, madeCells z.cells (n * sz), rfl, Nat.zero_le _, heap_alloc_new w _, Nat.le_refl _, hml, by simp [madeCells], ?_⟩⟩
  rw [hflat, List.take_of_length_le (by omega)]
end
end Go.X
